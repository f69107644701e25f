/-
  OfUp of package trees.
-/
import Derived.Test.YtldapomcjfkeeaaTrPt
namespace Go.Proofs.Ytldapomcjfkeeaa
set_option linter.unusedVariables false
set_option linter.unusedSimpArgs false
open Go.ChangeShapes Go.WideShapes Go.ChangeAt Go.RowKit

theorem Tr.allOne {w0 w : World} {A : Asrt} {μ : List Asrt} (h : St w0 w (aAll [A] :: μ)) : St w0 w (A :: μ) := h.turn (by simp [aAll]) (h.ok _ (.head _) A (.head _))
theorem Tr.addAt (g j : Nat) : (⟨g, 0, none⟩ : Addr).add j = ⟨g, j, none⟩ := by unfold Addr.add; split <;> simp_all
theorem Tr.ownRead {w : World} {B : Nat} {e : TypeId} {size g n cap : Nat} {xs : List Value} (h : Own w B e size (.slice (some ⟨g, 0, none⟩) n cap) xs) : ∀ j q, (cellsOf xs)[j]? = some q → w.cell? ((⟨g, 0, none⟩ : Addr).add j) = some q := by
  intro j q hq
  have hadd : (⟨g, 0, none⟩ : Addr).add j = ⟨g, j, none⟩ := by unfold Addr.add; split <;> simp_all
  rw [hadd]
  unfold Own at h
  rcases h.2 with ⟨h2, _⟩ | ⟨g', cap', cur, hv, hB, hg, hn, hc, hcs, htk⟩
  · cases h2
  · simp only [Value.slice.injEq, Option.some.injEq, Addr.mk.injEq] at hv
    obtain ⟨⟨rfl, _⟩, rfl, rfl⟩ := hv
    rw [← htk, List.getElem?_take] at hq
    split at hq
    · simp only [World.cell?, hg]
      simpa using hq
    · cases hq
theorem Tr.sliceFrom {w : World} {B : Nat} {av : Option Addr} {cv : Nat} {P : List Tr.P4} (h : Own w B 211 4 (.slice av P.length cv) (P.map Tr.partV)) (b : Nat) (hb : b ≤ P.length) :
    ∃ a1 c1, (∀ W, (Instr.slice 209 (.slice av P.length cv) (some (.int .i64 ((P.length : Int) - (b : Int)))) none none).run Try.prog W = .ok (.slice a1 b c1) W) ∧ (0 < b → ∃ g, av = some ⟨g, 0, none⟩ ∧ a1 = some ⟨g, (P.length - b) * 4, none⟩) := by
  have hsz : ∀ W : World, (sizeOf (Try.prog.elem 209)).run Try.prog W = .ok 4 W := fun W => by kernel_rfl
  have hi : (P.length : Int) - (b : Int) = ((P.length - b : Nat) : Int) := by omega
  rcases h.shape with ⟨h1, h2⟩ | ⟨g, cap, h1, _⟩
  · have hP : P = [] := by simpa using h2
    subst hP
    simp only [Value.slice.injEq] at h1
    obtain ⟨rfl, -, rfl⟩ := h1
    obtain rfl : b = 0 := by simpa using hb
    refine ⟨none, 0, fun W => ?_, fun h => by omega⟩
    rw [hi, run_slice_l W 209 none [].length 0 (by kernel_rfl) .i64 (([].length - 0 : Nat) : Int) (by omega) (by omega), hsz]
    rfl
  · simp only [Value.slice.injEq] at h1
    obtain ⟨rfl, -, rfl⟩ := h1
    have hcap : P.length ≤ cv := by
      unfold Own at h
      rcases h.2 with ⟨h2, _⟩ | ⟨g', cap', cur, hv, hB, hg, hn, hc, hcs, htk⟩
      · cases h2
      · simp only [Value.slice.injEq] at hv
        obtain ⟨-, -, rfl⟩ := hv
        simpa using hn
    refine ⟨if cv = P.length - b then some ⟨g, 0, none⟩ else (some (⟨g, 0, none⟩ : Addr)).map (·.add ((P.length - b) * 4)), cv - (P.length - b), fun W => ?_, fun hpos => ⟨g, rfl, ?_⟩⟩
    · rw [hi, run_slice_l W 209 (some ⟨g, 0, none⟩) P.length cv (by kernel_rfl) .i64 ((P.length - b : Nat) : Int) (by omega) (by omega), hsz]
      simp only [Result.andThen, sliced, Int.toNat_natCast]
      rw [show P.length - (P.length - b) = b by omega]
    · rw [if_neg (by omega)]
      simp only [Option.map]
      unfold Addr.add
      split <;> simp_all
theorem Tr.sliceTo {av : Option Addr} {cv n : Nat} {m : Int} (b : Nat) (hm : m = (b : Int)) (hb : b ≤ cv) (ha : av = none ∨ ∃ g, av = some ⟨g, 0, none⟩) :
    ∀ W, (Instr.slice 209 (.slice av n cv) none (some (.int .i64 m)) (some (.int .i64 m))).run Try.prog W = .ok (.slice av b b) W := by
  intro W
  have hsz : (sizeOf (Try.prog.elem 209)).run Try.prog W = .ok 4 W := by kernel_rfl
  subst hm
  rw [run_slice_hm W 209 av n cv (by kernel_rfl) .i64 .i64 (b : Int) (b : Int) (by omega) (by omega) (by omega), hsz]
  simp only [Result.andThen, sliced, Int.toNat_natCast, Nat.sub_zero, Nat.zero_mul]
  rcases ha with rfl | ⟨g, rfl⟩
  · simp
  · simp [Addr.add]

set_option maxRecDepth 100000 in
set_option maxHeartbeats 24000000 in
theorem trOfUp_any (tg ng : Int) (vp : Value) (l : List (Int × List (Int × Int))) (F : Nat → Prop) (al : Option Addr) (cl : Nat) (E : List Tr.Ev) (eT : Tr → Int) (w : World) (hF : ∀ b, F b → b < w.heap.size) (hp : Enc.prods.R F w [vp] l) (hev : (Enc.two.sl 16).R F w [.slice al E.length cl] E) (he : Tr.IsErr tg ng l eT) :
    Calls Try.prog 51 #[.agg #[.int .i64 tg, .int .i64 ng, vp], .slice al E.length cl] w (Tr.Gives (Tr.outc (Gr.err tg ng l) eT E.length (Tr.ofUp l E)) w) := by
  have hp2 := hp
  obtain ⟨ap, bp, op, cp, rfl, -, p3, p4⟩ := slProds hp2
  obtain ⟨_, bl, ol, _, hv, -, l3, l4⟩ := slTwo hev
  simp only [Value.slice.injEq, true_and] at hv
  obtain ⟨rfl, rfl⟩ := hv
  have P3 := Lib.hid p3; have P4 := Lib.hid p4; have L3 := Lib.hid l3; have L4 := Lib.hid l4
  have hst := ((St.init w).alloc #[.int .i64 tg, .int .i64 ng, .slice ap l.length cp] 68).alloc #[.int .i64 0, .int .i64 0, .slice none 0 0] 71
  simp only [World.size_alloc] at hst
  have HC := Lib.hid (trStart_any tg ng _ l al E.length cl _ F (fun b hb => Nat.lt_of_lt_of_le (hF b hb) hst.bel.size) (Enc.mono _ hp (fun _ h => h) (fun b hb => hst.bel.block b (hF b hb))))
  have HST := Lib.hid hst
  obtain ⟨g0, g1, g2⟩ := hst.at3 1 rfl
  have HP := Lib.hid hp; have HIE := Lib.hid he; have HF := Lib.hid hF
  clear hst hp hp2 hev he hF p3 p4 l3 l4
  by_cases hg : Gr.err tg ng l = 0
  · have HZ := Lib.hid (Gr.err_zero hg)
    have HGR := Lib.hid hg
    rw [hg] at HC ⊢
    by_cases hN : 2000 < E.length
    · rw [Tr.outc_big hN]
      rw [if_pos rfl, if_pos hN] at HC
      clear hg
      go_enter Try.func51, Try.ntmps51
      go_wp2_with (fail)
      go_at_call 114
      refine HC.out.mono ?_
      rintro e w1 ⟨rfl, hb1⟩
      have hst1 := HST.out.call hb1
      obtain ⟨r0, r1, r2, f0, f1, f2⟩ := hst1.cel3
      have HST1 := Lib.hid (hst1.setCel 0 (.int .i64 0) |>.setCel 1 (.int .i64 0) |>.setCel 2 (.slice none 0 0))
      clear hst1 hb1 HC HST g0 g1 g2
      go_wp2
      obtain ⟨r0, r1, r2⟩ := HST1.out.at3 0 rfl
      refine bodyPost_ret (Tr.resT rfl _ _ _ rfl r0 r1 r2) rfl ?_
      exact Tr.gives_nil HST1.out
    · rw [if_pos rfl, if_neg hN] at HC
      clear hg
      obtain ⟨T, hT⟩ : ∃ T, Tr.ofUp l E = T := ⟨_, rfl⟩
      rw [hT]
      have HT := Lib.hid hT
      have HN := Lib.hid hN
      have hN2 : E.length ≤ 2000 := by omega
      obtain ⟨U, hU⟩ : ∃ U, Tr.up l E = U := ⟨_, rfl⟩
      have HU := Lib.hid hU
      clear hT hN hU
      go_enter Try.func51, Try.ntmps51
      go_wp2_with (fail)
      go_at_call 114
      refine HC.out.mono ?_
      rintro e w1 ⟨rfl, hb1⟩
      have HST1 := Lib.hid (HST.out.call hb1)
      clear hb1 HC HST g0 g1 g2
      go_wp2
      go_loopg [7, 8, 26] E.length (fun gk v tk i wr => ∃ (k c : Nat) (P : List Tr.P4), k ≤ E.length ∧ gk = E.length - k ∧ i = .int .i64 k ∧ tk = .int .i64 c ∧ c ≤ k ∧ P.length ≤ k ∧ Hid (∀ q ∈ P, Tr.KidOk q.1) ∧ Hid ((E.drop k).foldl (Tr.step l) (some (P.map Tr.plain, c)) = U) ∧
        St w wr (aOwn 211 4 v (P.map Tr.partV) :: aAll (P.map Tr.partA) :: aCel (w.heap.size + 1) 71 #[.int .i64 0, .int .i64 0, .slice none 0 0] :: aCel w.heap.size 68 #[.int .i64 tg, .int .i64 ng, .slice ap l.length cp] :: []))
      case atStart => exact ⟨0, 0, [], by omega, by omega, rfl, rfl, by omega, by simp, Lib.hid (fun q h => by cases h), Lib.hid HU.out, HST1.out.nilAll.nilOwn 211 4⟩
      case round =>
        clear HST1
        rename World => wo
        obtain ⟨k, c, P, hk, hgk, rfl, rfl, hck, hPk, HOK, HFU, hst⟩ := hrel
        have HGK := Lib.hid hgk
        clear hgk
        obtain ⟨av, cv, hv⟩ := (hst.ownAt 0 rfl).isLen
        rw [List.length_map] at hv
        subst hv
        by_cases hlt : k < E.length
        · obtain ⟨rfl, -, -⟩ := L3.out (by omega)
          obtain ⟨d0, d1, hx1, hx2⟩ := L4.out k hlt
          have d0 := bkeep hst.bel d0
          have d1 := bkeep hst.bel d1
          have hlt2 : (k : Int) < E.length := by omega
          have hfu := HFU.out
          rw [Gr.drop_at E (0, 0) k hlt, List.foldl_cons] at hfu
          generalize E.getD k (0, 0) = x at *
          obtain ⟨x1, x2⟩ := x
          simp only at d0 d1 hx1 hx2
          have hst2 := hst.alloc #[.int .i64 x1, .int .i64 x2] 81
          obtain ⟨y0, y1⟩ := hst2.at2 0 rfl
          by_cases hleaf : x1 = 2 ∧ x2 = c
          · rw [Tr.step_leaf hleaf] at hfu
            obtain ⟨rfl, rfl⟩ := hleaf
            have HFU2 := Lib.hid hfu
            have HOK2 : Hid (∀ z ∈ P ++ [(((.mk (-1) (c : Int) [], .slice none 0 0, []), -1) : Tr.P4)], Tr.KidOk z.1) := Lib.hid (fun z hz => by
              rcases List.mem_append.1 hz with hz | hz
              · exact HOK.out z hz
              · rw [List.mem_singleton.1 hz]
                exact ⟨⟨by show (-9223372036854775808 : Int) ≤ -1; decide, by show (-1 : Int) ≤ 9223372036854775807; decide⟩, hx2, none, 0, 0, rfl⟩)
            have HST2 := Lib.hid (hst2.pick [1, 2, 3, 4] 5 rfl rfl)
            clear hst hst2 hfu HFU HOK
            go_wp2_with (refine St.app1n (o := ⟨some 44, _, _, _, _, _⟩) Tr.partE ?h1_1 (.tmp 39) (.tmp 43) ?h1_2 ?h1_3 HST2.out (Tr.partV ((.mk (-1) (c : Int) [], .slice none 0 0, []), -1)) ?h1_4 (wo.heap.size + 1) 1 ?h1_5 ?h1_6 ?h1_7 ?h1_8 ?h1_9 ?h1_10 ?h1_11; (case h1_1 => rfl); (case h1_2 => rfl); (case h1_6 => simp); (case h1_7 => rfl); (case h1_4 => rfl); (case h1_3 => rfl); (case h1_5 => rfl); (case h1_8 => exact Tr.partOne (HOK2.out _ (List.mem_append.2 (.inr (.head _))))); (case h1_9 => (rw [List.length_map]; unfold maxLen; omega)); (case h1_10 => (rw [List.length_map]; omega)); intro g' n' c' w9 hst9; have HST9 := Lib.hid ((Tr.nilEnc (hst9.pick [1, 0, 2, 3] 4 rfl rfl)).snoc.pick [1, 0, 2, 3] 4 rfl rfl); clear hst9 HST2 y0 y1)
            go_roundg (E.length - (k + 1))
            case measure => have := HGK.out; omega
            case rel => exact ⟨k + 1, c + 1, P ++ [((.mk (-1) (c : Int) [], .slice none 0 0, []), -1)], by omega, rfl, by go_num, by go_num, by omega, by rw [List.length_append, List.length_singleton]; omega, HOK2, by rw [List.map_append]; exact HFU2, by rw [List.map_append, List.map_append]; exact HST9.out⟩
          · have hxb9 : ¬ (x1 = 2 ∧ x2 = (c : Int)) := hleaf
            by_cases hgood : x1 = 4 ∧ 0 ≤ x2 ∧ x2 < l.length
            · obtain ⟨rfl, hx0, hxl⟩ := hgood
              obtain ⟨p, rfl⟩ := Int.eq_ofNat_of_zero_le hx0
              have hpl : p < l.length := by omega
              obtain ⟨rfl, -, -⟩ := P3.out (by omega)
              obtain ⟨vb, c1, c2, hbody, -⟩ := P4.out p hpl
              obtain ⟨ab, bb, ob, cb, rfl, -, b3, b4⟩ := slTwo hbody
              have h8 := (HZ.out.2.2.2.2.2 (l.getD p (0, [])) (by simp [List.getD, List.getElem?_eq_getElem hpl])).1
              have hh0 := (HZ.out.2.2.2.2.2 (l.getD p (0, [])) (by simp [List.getD, List.getElem?_eq_getElem hpl])).2.1
              obtain ⟨pp, hpp⟩ : ∃ pp, l.getD p (0, []) = pp := ⟨_, rfl⟩
              rw [hpp] at c1 c2 b3 b4 h8 hh0
              obtain ⟨h0, body⟩ := pp
              have hpp2 : l.getD ((p : Int)).toNat (0, []) = (h0, body) := by rw [Int.toNat_natCast]; exact hpp
              simp only at c1 c2 b3 b4 h8 hh0
              have c1 := bkeep hst2.bel c1
              have c2 := bkeep hst2.bel c2
              have hpl2 : (p : Int) < l.length := by omega
              have B3 := Lib.hid b3; have B4 := Lib.hid b4
              obtain ⟨g0, g1, g2⟩ := hst2.at3 4 rfl
              have hst3 := hst2.alloc #[.int .i64 h0, .slice ab body.length cb] 186
              simp only [World.size_alloc] at hst3
              obtain ⟨z0, z1⟩ := hst3.at2 0 rfl
              obtain ⟨y0, y1⟩ := hst3.at2 1 rfl
              have hw1 : IntKind.i64.wrap ((P.length : Int) - (body.length : Int)) = (P.length : Int) - (body.length : Int) := IntWalk.i64_in _ (by omega)
              by_cases hfew : P.length < body.length
              · rw [Tr.step_few hxb9 ⟨rfl, by omega, hxl⟩ hpp2 (by rw [List.length_map]; exact hfew), Tr.step_none] at hfu
                subst hfu
                have HT0 : Hid (T = none) := Lib.hid (by rw [← HT.out]; unfold Tr.ofUp; rw [HU.out])
                have hneg : (P.length : Int) - (body.length : Int) < 0 := by omega
                obtain ⟨r0, r1, r2⟩ := hst3.at3 4 rfl
                have f0 := (hst3.nth 4 rfl).celFree 0; have f1 := (hst3.nth 4 rfl).celFree 1; have f2 := (hst3.nth 4 rfl).celFree 2
                have HSTE := Lib.hid (((hst3.pick [4] 6 rfl rfl).setCel 0 (.int .i64 0)).setCel 1 (.int .i64 0) |>.setCel 2 (.slice none 0 0))
                clear hst hst2 hst3 HFU HOK hleaf hxb9 hfew b3 b4 hbody hpp hpp2 h8 hh0
                go_wp2
                obtain ⟨r0, r1, r2⟩ := HSTE.out.at3 0 rfl
                refine bodyPost_ret (Tr.resT rfl _ _ _ rfl r0 r1 r2) rfl ?_
                rw [HT0.out, Tr.outc_none HN.out]
                exact Tr.gives_nil HSTE.out
              · have hneg : ¬ (P.length : Int) - (body.length : Int) < 0 := by omega
                obtain ⟨f0, hf0⟩ : ∃ f, P.length - body.length = f := ⟨_, rfl⟩
                have hlen3 : f0 + body.length = P.length := by omega
                obtain ⟨a1, cc1, hs1, ha1⟩ := Tr.sliceFrom (hst.ownAt 0 rfl) body.length (by omega)
                obtain ⟨Q, hQ⟩ : ∃ Q, P.drop f0 = Q := ⟨_, rfl⟩
                have hQl : Q.length = body.length := by rw [← hQ, List.length_drop]; omega
                have HQ := Lib.hid hQ; have HQL := Lib.hid hQl; have HF0 := Lib.hid hf0; have HL3 := Lib.hid hlen3
                rw [hf0] at ha1
                have HA1 := Lib.hid ha1
                have HUN := Lib.hid (fun h4 => Tr.step_unfit (G := l) (ps := P.map Tr.plain) (c := c) (e := (4, (p : Int))) hxb9 ⟨rfl, by omega, hxl⟩ hpp2 (by rw [List.length_map]; exact hfew) h4)
                have HFI := Lib.hid (fun h4 => Tr.step_fit (G := l) (ps := P.map Tr.plain) (c := c) (e := (4, (p : Int))) hxb9 ⟨rfl, by omega, hxl⟩ hpp2 (by rw [List.length_map]; exact hfew) h4)
                rw [List.length_map, hf0, ← List.map_drop, hQ] at HUN HFI
                have hst4 := hst3.alloc #[.int .i64 p, .int .i64 0, .slice none 0 0] 71
                simp only [World.size_alloc] at hst4
                obtain ⟨z0', z1'⟩ := hst4.at2 1 rfl
                have HST4 := Lib.hid ((hst4.nilOwn 71 3).pick (ρ := aOwn 71 3 (.slice none 0 0) ((((Q.take 0).map (·.1))).map Tr.kidV) :: aCel (wo.heap.size + 1 + 1) 71 #[.int .i64 p, .int .i64 0, .slice none 0 0] :: aCel (wo.heap.size + 1) 186 #[.int .i64 h0, .slice ab body.length cb] :: aOwn 211 4 (.slice av P.length cv) (P.map Tr.partV) :: aAll (P.map Tr.partA) :: aCel (w.heap.size + 1) 71 #[.int .i64 0, .int .i64 0, .slice none 0 0] :: aCel w.heap.size 68 #[.int .i64 tg, .int .i64 ng, .slice (some ⟨bp, op, none⟩) l.length cp] :: []) [0, 1, 2, 4, 5, 6, 7] 8 rfl rfl)
                have HFUU := Lib.hid hfu
                clear hst hst2 hst3 hst4 HFU hleaf hxb9 hfew b3 b4 hbody hpp hpp2 ha1 hQ hQl hfu hf0 hlen3
                go_wp2
                go_loopg [86] body.length (fun gk2 i2 wr2 => ∃ (j : Nat) (vt : Value), j ≤ body.length ∧ gk2 = body.length - j ∧ i2 = .int .i64 j ∧ Hid (Tr.fitsL ((Q.map Tr.plain).drop j) (body.drop j) = Tr.fitsL (Q.map Tr.plain) body) ∧
                  St w wr2 (aOwn 71 3 vt ((((Q.take j).map (·.1))).map Tr.kidV) :: aCel (wo.heap.size + 1 + 1) 71 #[.int .i64 p, .int .i64 0, vt] :: aCel (wo.heap.size + 1) 186 #[.int .i64 h0, .slice ab body.length cb] :: aOwn 211 4 (.slice av P.length cv) (P.map Tr.partV) :: aAll (P.map Tr.partA) :: aCel (w.heap.size + 1) 71 #[.int .i64 0, .int .i64 0, .slice none 0 0] :: aCel w.heap.size 68 #[.int .i64 tg, .int .i64 ng, .slice (some ⟨bp, op, none⟩) l.length cp] :: []))
                case atStart => exact ⟨0, .slice none 0 0, by omega, by omega, rfl, Lib.hid rfl, HST4.out⟩
                case round =>
                  clear HST4 hs1 hw1 y0 y1 z0 z1 z0' z1' g0 g1 g2 c1 c2 d0 d1
                  obtain ⟨j, vt, hj, hgk2, rfl, HFIT, hst⟩ := hrel
                  have HGK2 := Lib.hid hgk2
                  have htl : (((Q.take j).map (·.1)).map Tr.kidV).length = j := by
                    have := HQL.out
                    rw [List.length_map, List.length_map, List.length_take]; omega
                  have HTL := Lib.hid htl
                  obtain ⟨at2, ct, hvt⟩ := (hst.ownAt 0 rfl).isLen
                  rw [htl] at hvt
                  subst hvt
                  clear hgk2 htl
                  by_cases hlj : j < body.length
                  · obtain ⟨g, rfl, rfl⟩ := HA1.out (by omega)
                    obtain ⟨rfl, -, -⟩ := B3.out (by omega)
                    obtain ⟨e0, e1, -, -⟩ := B4.out j hlj
                    have hjQ : j < Q.length := by have := HQL.out; omega
                    obtain ⟨q0, q1, q2, q3⟩ := Tr.cellPart (hst.nth 3 rfl) (f0 + j) (by have := HL3.out; omega)
                    have hqq : P.getD (f0 + j) Tr.pz = Q.getD j Tr.pz := by rw [← HQ.out]; simp [List.getD, List.getElem?_drop]
                    have hqm : Q.getD j Tr.pz ∈ P := by
                      rw [← hqq, show P.getD (f0 + j) Tr.pz = P[f0 + j]'(by have := HL3.out; omega) by simp [List.getD, List.getElem?_eq_getElem (show f0 + j < P.length by have := HL3.out; omega)]]
                      exact List.getElem_mem _
                    have hmp : (Q.map Tr.plain).getD j (Tr.plain Tr.pz) = Tr.plain (Q.getD j Tr.pz) := by simp [List.getD, List.getElem?_eq_getElem hjQ]
                    have hfit := HFIT.out
                    rw [Tr.fitsL_at (d := Tr.plain Tr.pz) (by rw [List.length_map]; exact hjQ) hlj, hmp] at hfit
                    have htk : ((Q.take (j + 1)).map (·.1)).map Tr.kidV = ((Q.take j).map (·.1)).map Tr.kidV ++ [Tr.kidV (Q.getD j Tr.pz).1] := by
                      rw [List.take_succ_eq_append_getElem hjQ, List.map_append, List.map_append, show Q.getD j Tr.pz = Q[j] by simp [List.getD, List.getElem?_eq_getElem hjQ]]
                      rfl
                    obtain ⟨hkp, hkt, ao, n', c', hvk⟩ := HOK.out _ hqm
                    rw [hqq, show (f0 + j) * 4 = f0 * 4 + j * 4 by omega] at q0 q1 q2 q3
                    generalize Q.getD j Tr.pz = qj at *
                    obtain ⟨⟨tj, vj, fj⟩, hd⟩ := qj
                    simp only at hkp hkt hvk q0 q1 q2 q3 htk
                    subst hvk
                    generalize body.getD j (0, 0) = y at *
                    obtain ⟨u1, u2⟩ := y
                    simp only at e0 e1
                    have e0 := bkeep hst.bel e0
                    have e1 := bkeep hst.bel e1
                    have HTK := Lib.hid htk
                    have HBADF := Lib.hid (fun (h : Tr.fits (Tr.plain ((tj, .slice ao n' c', fj), hd)) (u1, u2) = false) => show Tr.fitsL (Q.map Tr.plain) body = false by rw [← hfit, h]; rfl)
                    have HGOODF := Lib.hid (fun (h : Tr.fits (Tr.plain ((tj, .slice ao n' c', fj), hd)) (u1, u2) = true) => show Tr.fitsL ((Q.map Tr.plain).drop (j + 1)) (body.drop (j + 1)) = Tr.fitsL (Q.map Tr.plain) body by rw [← hfit, h]; rfl)
                    have hst2 := hst.alloc #[.int .i64 tj.prod, .int .i64 tj.tok, .slice ao n' c', .int .i64 hd] 211
                    have HSN := Lib.hid (fun n => hst2.drewN n)
                    obtain ⟨k0, k1, k2, k3⟩ := hst2.at4 0 rfl
                    obtain ⟨z0, z1⟩ := hst2.at2 3 rfl
                    have e0 := bkeep (St.bel ((St.init wr).skip (.cells #[.int .i64 tj.prod, .int .i64 tj.tok, .slice ao n' c', .int .i64 hd] 211))) e0
                    have e1 := bkeep (St.bel ((St.init wr).skip (.cells #[.int .i64 tj.prod, .int .i64 tj.tok, .slice ao n' c', .int .i64 hd] 211))) e1
                    have hlj2 : (j : Int) < body.length := by omega
                    clear hst hst2 hfit hmp hqq hqm htk HFIT
                    by_cases ha : u1 = 1
                    · subst ha
                      by_cases hb : hd < 0
                      · have hfg : Tr.fits (Tr.plain ((tj, .slice ao n' c', fj), hd)) (1, u2) = true := Tr.fits_mk ⟨⟨fun _ => hb, fun _ => rfl⟩, .inl hb⟩
                        have hb2 : decide (0 ≤ hd) = false := decide_eq_false (by omega)
                        have HFIT2 := Lib.hid (HGOODF.out hfg)
                        go_wp2
                        go_quiet (fail)
                        have HS9 := Lib.hid (HSN.out nq)
                        clear HSN
                        generalize World.drewN _ _ = w9 at *
                        have hst10 := HS9.out.pick [1, 2, 3, 4, 5, 6, 7] 8 rfl rfl
                        obtain ⟨t0, t1, t2⟩ := HS9.out.at3 2 rfl
                        obtain ⟨k0, k1, k2, k3⟩ := HS9.out.at4 0 rfl
                        have HSTA := Lib.hid hst10
                        clear hst10
                        go_wp2_with (refine St.app1n (o := ⟨some 124, _, _, _, _, _⟩) Tr.treeE ?h2_1 (.tmp 120) (.tmp 123) ?h2_2 ?h2_3 HSTA.out (Tr.kidV (tj, .slice ao n' c', fj)) ?h2_4 w9.heap.size 1 ?h2_5 ?h2_6 ?h2_7 ?h2_8 ?h2_9 ?h2_10 ?h2_11; (case h2_1 => rfl); (case h2_2 => rfl); (case h2_6 => rfl); (case h2_7 => rfl); (case h2_4 => rfl); (case h2_3 => rfl); (case h2_5 => rfl); (case h2_8 => exact Tr.kidOne ⟨hkp, hkt, ao, n', c', rfl⟩); (case h2_9 => (rw [HTL.out]; unfold maxLen; omega)); (case h2_10 => (rw [HTL.out]; omega)); intro g' n2 c2' w5 hst5; obtain ⟨t0, t1, t2⟩ := hst5.at3 1 rfl; have fo := (hst5.nth 1 rfl).celFree 2; have HST5 := Lib.hid ((hst5.get2.setCel 2 (.slice (some ⟨g', 0, none⟩) n2 c2')).get2); clear hst5 HSTA k0 k1 k2 k3)
                        go_roundg (body.length - (j + 1))
                        case measure => have := HGK2.out; omega
                        case rel => exact ⟨j + 1, .slice (some ⟨g', 0, none⟩) n2 c2', by omega, rfl, by go_num, HFIT2, by rw [HTK.out]; exact HST5.out⟩
                      · have hfb : Tr.fits (Tr.plain ((tj, .slice ao n' c', fj), hd)) (1, u2) = false := by
                          cases hf : Tr.fits (Tr.plain ((tj, .slice ao n' c', fj), hd)) (1, u2)
                          · rfl
                          · exact absurd ((Tr.fits_iff hf).1.1 rfl) hb
                        have hb2 : decide (hd < 0) = false := decide_eq_false hb
                        have HT0 : Hid (T = none) := Lib.hid (by
                          have h1 := HFUU.out
                          rw [HUN.out (HBADF.out hfb), Tr.step_none] at h1
                          rw [← HT.out]; unfold Tr.ofUp; rw [HU.out, ← h1])
                        go_wp2
                        go_quiet (fail)
                        have HS9 := Lib.hid (HSN.out nq)
                        clear HSN
                        generalize World.drewN _ _ = w9 at *
                        obtain ⟨r0, r1, r2⟩ := HS9.out.at3 6 rfl
                        have f0 := (HS9.out.nth 6 rfl).celFree 0; have f1 := (HS9.out.nth 6 rfl).celFree 1; have f2 := (HS9.out.nth 6 rfl).celFree 2
                        have HSTE := Lib.hid (((HS9.out.pick [6] 8 rfl rfl).setCel 0 (.int .i64 0)).setCel 1 (.int .i64 0) |>.setCel 2 (.slice none 0 0))
                        go_wp2
                        obtain ⟨r0, r1, r2⟩ := HSTE.out.at3 0 rfl
                        refine bodyPost_ret (Tr.resT rfl _ _ _ rfl r0 r1 r2) rfl ?_
                        rw [HT0.out, Tr.outc_none HN.out]
                        exact Tr.gives_nil HSTE.out
                    · have ha2 : (u1 == 1) = false := by rw [beq_eq_false_iff_ne]; exact ha
                      by_cases hb : hd < 0
                      · have hfb : Tr.fits (Tr.plain ((tj, .slice ao n' c', fj), hd)) (u1, u2) = false := by
                          cases hf : Tr.fits (Tr.plain ((tj, .slice ao n' c', fj), hd)) (u1, u2)
                          · rfl
                          · exact absurd ((Tr.fits_iff hf).1.2 hb) ha
                        have HT0 : Hid (T = none) := Lib.hid (by
                          have h1 := HFUU.out
                          rw [HUN.out (HBADF.out hfb), Tr.step_none] at h1
                          rw [← HT.out]; unfold Tr.ofUp; rw [HU.out, ← h1])
                        go_wp2
                        go_quiet (fail)
                        have HS9 := Lib.hid (HSN.out nq)
                        clear HSN
                        generalize World.drewN _ _ = w9 at *
                        obtain ⟨r0, r1, r2⟩ := HS9.out.at3 6 rfl
                        have f0 := (HS9.out.nth 6 rfl).celFree 0; have f1 := (HS9.out.nth 6 rfl).celFree 1; have f2 := (HS9.out.nth 6 rfl).celFree 2
                        have HSTE := Lib.hid (((HS9.out.pick [6] 8 rfl rfl).setCel 0 (.int .i64 0)).setCel 1 (.int .i64 0) |>.setCel 2 (.slice none 0 0))
                        go_wp2
                        obtain ⟨r0, r1, r2⟩ := HSTE.out.at3 0 rfl
                        refine bodyPost_ret (Tr.resT rfl _ _ _ rfl r0 r1 r2) rfl ?_
                        rw [HT0.out, Tr.outc_none HN.out]
                        exact Tr.gives_nil HSTE.out
                      · have hb2 : decide (hd < 0) = false := decide_eq_false hb
                        have hb3 : 0 ≤ hd := by omega
                        by_cases hc : hd = u2
                        · subst hc
                          have hfg : Tr.fits (Tr.plain ((tj, .slice ao n' c', fj), hd)) (u1, hd) = true := Tr.fits_mk ⟨⟨fun h => absurd h ha, fun h => absurd h hb⟩, .inr rfl⟩
                          have HFIT2 := Lib.hid (HGOODF.out hfg)
                          go_wp2
                          go_quiet (fail)
                          have HS9 := Lib.hid (HSN.out nq)
                          clear HSN
                          generalize World.drewN _ _ = w9 at *
                          have hst10 := HS9.out.pick [1, 2, 3, 4, 5, 6, 7] 8 rfl rfl
                          obtain ⟨t0, t1, t2⟩ := HS9.out.at3 2 rfl
                          obtain ⟨k0, k1, k2, k3⟩ := HS9.out.at4 0 rfl
                          have HSTA := Lib.hid hst10
                          clear hst10
                          go_wp2_with (refine St.app1n (o := ⟨some 124, _, _, _, _, _⟩) Tr.treeE ?h3_1 (.tmp 120) (.tmp 123) ?h3_2 ?h3_3 HSTA.out (Tr.kidV (tj, .slice ao n' c', fj)) ?h3_4 w9.heap.size 1 ?h3_5 ?h3_6 ?h3_7 ?h3_8 ?h3_9 ?h3_10 ?h3_11; (case h3_1 => rfl); (case h3_2 => rfl); (case h3_6 => rfl); (case h3_7 => rfl); (case h3_4 => rfl); (case h3_3 => rfl); (case h3_5 => rfl); (case h3_8 => exact Tr.kidOne ⟨hkp, hkt, ao, n', c', rfl⟩); (case h3_9 => (rw [HTL.out]; unfold maxLen; omega)); (case h3_10 => (rw [HTL.out]; omega)); intro g' n2 c2' w5 hst5; obtain ⟨t0, t1, t2⟩ := hst5.at3 1 rfl; have fo := (hst5.nth 1 rfl).celFree 2; have HST5 := Lib.hid ((hst5.get2.setCel 2 (.slice (some ⟨g', 0, none⟩) n2 c2')).get2); clear hst5 HSTA k0 k1 k2 k3)
                          go_roundg (body.length - (j + 1))
                          case measure => have := HGK2.out; omega
                          case rel => exact ⟨j + 1, .slice (some ⟨g', 0, none⟩) n2 c2', by omega, rfl, by go_num, HFIT2, by rw [HTK.out]; exact HST5.out⟩
                        · have hfb : Tr.fits (Tr.plain ((tj, .slice ao n' c', fj), hd)) (u1, u2) = false := by
                            cases hf : Tr.fits (Tr.plain ((tj, .slice ao n' c', fj), hd)) (u1, u2)
                            · rfl
                            · exact absurd ((Tr.fits_iff hf).2.resolve_left hb) hc
                          have hc2 : (hd != u2) = true := by simpa using hc
                          have HT0 : Hid (T = none) := Lib.hid (by
                            have h1 := HFUU.out
                            rw [HUN.out (HBADF.out hfb), Tr.step_none] at h1
                            rw [← HT.out]; unfold Tr.ofUp; rw [HU.out, ← h1])
                          go_wp2
                          go_quiet (fail)
                          have HS9 := Lib.hid (HSN.out nq)
                          clear HSN
                          generalize World.drewN _ _ = w9 at *
                          obtain ⟨r0, r1, r2⟩ := HS9.out.at3 6 rfl
                          have f0 := (HS9.out.nth 6 rfl).celFree 0; have f1 := (HS9.out.nth 6 rfl).celFree 1; have f2 := (HS9.out.nth 6 rfl).celFree 2
                          have HSTE := Lib.hid (((HS9.out.pick [6] 8 rfl rfl).setCel 0 (.int .i64 0)).setCel 1 (.int .i64 0) |>.setCel 2 (.slice none 0 0))
                          go_wp2
                          obtain ⟨r0, r1, r2⟩ := HSTE.out.at3 0 rfl
                          refine bodyPost_ret (Tr.resT rfl _ _ _ rfl r0 r1 r2) rfl ?_
                          rw [HT0.out, Tr.outc_none HN.out]
                          exact Tr.gives_nil HSTE.out
                  · obtain rfl : j = body.length := by omega
                    have hfit := HFIT.out
                    rw [List.drop_eq_nil_of_le (by rw [List.length_map, HQL.out]; exact Nat.le_refl _), List.drop_length] at hfit
                    have hft : Tr.fitsL (Q.map Tr.plain) body = true := by rw [← hfit]; rfl
                    have hfu := HFUU.out
                    rw [HFI.out hft] at hfu
                    have hpq : Q ⊆ P := fun z hz => by rw [← HQ.out] at hz; exact List.mem_of_mem_drop hz
                    rw [List.take_of_length_le (by rw [HQL.out]; exact Nat.le_refl _)] at hst
                    have hPA : P.map Tr.partA = (P.take f0).map Tr.partA ++ (Q.map (·.1)).map Tr.kidA := by
                      rw [← HQ.out]
                      conv => lhs; rw [← List.take_append_drop f0 P]
                      rw [List.map_append, List.map_map]
                      rfl
                    rw [hPA] at hst
                    have hst2 := (hst.pick [4, 0, 1, 2, 3, 5, 6] 7 rfl rfl).allSplit
                    obtain ⟨fp, hst3⟩ := Tr.sealKids (hst2.pick [2, 1, 0, 3, 4, 5, 6, 7] 8 rfl rfl) (fun z hz => by obtain ⟨q, hq, rfl⟩ := List.mem_map.1 hz; exact HOK.out q (hpq hq)) (by rw [List.length_map, HQL.out]; omega)
                    have HOK2 : Hid (∀ z ∈ P.take f0 ++ [((((.mk (p : Int) 0 ((Q.map (·.1)).map (·.1)), .slice at2 body.length ct, fp), h0)) : Tr.P4)], Tr.KidOk z.1) := Lib.hid (fun z hz => by
                      rcases List.mem_append.1 hz with hz | hz
                      · exact HOK.out z (List.mem_of_mem_take hz)
                      · rw [List.mem_singleton.1 hz]
                        exact ⟨hx2, ⟨by show (-9223372036854775808 : Int) ≤ 0; decide, by show (0 : Int) ≤ 9223372036854775807; decide⟩, at2, body.length, ct, rfl⟩)
                    have HFU2 : Hid ((E.drop (k + 1)).foldl (Tr.step l) (some ((P.take f0 ++ [((((.mk (p : Int) 0 ((Q.map (·.1)).map (·.1)), .slice at2 body.length ct, fp), h0)) : Tr.P4)]).map Tr.plain, c)) = U) := Lib.hid (by
                      rw [← hfu, List.map_append, List.map_take, List.map_map, List.map_map]
                      rfl)
                    have hcv : f0 ≤ cv := by
                      have h := hst3.ownAt 4 rfl
                      have := HL3.out
                      unfold Own at h
                      rcases h.2 with ⟨h2, _⟩ | ⟨g', cap', cur, hv, hB, hg, hn, hc, hcs, htk⟩
                      · simp only [Value.slice.injEq] at h2
                        omega
                      · simp only [Value.slice.injEq] at hv
                        rw [List.length_map] at hn
                        omega
                    have hsh := (hst3.ownAt 4 rfl).shape
                    have hL3 := HL3.out
                    have hmi : (P.length : Int) - (body.length : Int) = (f0 : Int) := by omega
                    have HST3 := Lib.hid hst3.drew
                    obtain ⟨t0, t1, t2⟩ := hst3.at3 2 rfl
                    obtain ⟨z0, z1⟩ := hst3.at2 3 rfl
                    clear hst hst2 hst3 hfit hft hfu hpq hPA HOK HFI HUN HFUU HFIT HQL HA1 hlj hj
                    rcases hsh with ⟨hn1, hn2⟩ | ⟨g, cap, hn1, -, -⟩
                    · simp only [Value.slice.injEq] at hn1
                      obtain ⟨rfl, -, rfl⟩ := hn1
                      obtain rfl : f0 = 0 := by omega
                      have hs2 := Tr.sliceTo (av := none) (cv := 0) (n := P.length) 0 hmi (Nat.le_refl _) (.inl rfl)
                      have HSTB := Lib.hid (((HST3.out.nilOwn 211 4).pick [0, 1, 2, 3, 4, 6, 7] 8 rfl rfl))
                      have HSTC := Lib.hid (HST3.out.skip (.cells #[.int .i64 p, .int .i64 0, .slice at2 body.length ct, .int .i64 h0] 211))
                      obtain ⟨t0', t1', t2'⟩ := HSTC.out.at3 2 rfl
                      obtain ⟨z0', z1'⟩ := HSTC.out.at2 3 rfl
                      clear hmi hcv hn2 hL3
                      go_wp2
                      refine wp_region_held_drew (S := (fun w' => w'.cell? ⟨wo.heap.size + 1 + 1, 0, none⟩ = some (.int .i64 p) ∧ w'.cell? ⟨wo.heap.size + 1 + 1, 1, none⟩ = some (.int .i64 0) ∧ w'.cell? ⟨wo.heap.size + 1 + 1, 2, none⟩ = some (.slice at2 body.length ct) ∧ w'.cell? ⟨wo.heap.size + 1, 0, none⟩ = some (.int .i64 h0))) (by kernel_rfl) ?_ (fun hHeld => ?_)
                      · (try dsimp only); (first | exact ⟨t0, t1, t2, z0⟩ | exact ⟨t0', t1', t2', z0'⟩ | go_keep)

                      refine wpAnyH_take (i := 0) (v := ?_) rfl (by kernel_rfl) (by kernel_rfl) (by kernel_rfl) (fun _ _ _ h => h) (Or.inl ⟨by rfl, ?_⟩) (by assumption) ?_
                      rotate_left; focus (intro w hSw; (try dsimp only at hSw); go_simp; try (with_reducible rfl); done)
                      try simp only [List.getElem_toArray, List.getElem_cons_zero, List.getElem_cons_succ, Act.put, List.setIfInBounds_toArray, List.set_cons_zero, List.set_cons_succ]
                      refine wpAnyH_take (i := 1) (v := ?_) rfl (by kernel_rfl) (by kernel_rfl) (by kernel_rfl) (fun _ _ _ h => h) (Or.inl ⟨by rfl, ?_⟩) (by assumption) ?_
                      rotate_left; focus (intro w hSw; (try dsimp only at hSw); go_simp; try (with_reducible rfl); done)
                      try simp only [List.getElem_toArray, List.getElem_cons_zero, List.getElem_cons_succ, Act.put, List.setIfInBounds_toArray, List.set_cons_zero, List.set_cons_succ]
                      refine wpAnyH_take (i := 2) (v := ?_) rfl (by kernel_rfl) (by kernel_rfl) (by kernel_rfl) (fun _ _ _ h => h) (Or.inl ⟨by rfl, ?_⟩) (by assumption) ?_
                      rotate_left; focus (intro w hSw; (try dsimp only at hSw); go_simp; try (with_reducible rfl); done)
                      try simp only [List.getElem_toArray, List.getElem_cons_zero, List.getElem_cons_succ, Act.put, List.setIfInBounds_toArray, List.set_cons_zero, List.set_cons_succ]
                      refine wpAnyH_take (i := 3) (v := ?_) rfl (by kernel_rfl) (by kernel_rfl) (by kernel_rfl) (fun _ _ _ h => h) (Or.inl ⟨by rfl, ?_⟩) (by assumption) ?_
                      rotate_left; focus (intro w hSw; (try dsimp only at hSw); go_simp; try (with_reducible rfl); done)
                      try simp only [List.getElem_toArray, List.getElem_cons_zero, List.getElem_cons_succ, Act.put, List.setIfInBounds_toArray, List.set_cons_zero, List.set_cons_succ]
                      refine wpAnyH_take (i := 4) (v := ?_) rfl (by kernel_rfl) (by kernel_rfl) (by kernel_rfl) (fun _ _ _ h => h) (Or.inl ⟨by rfl, ?_⟩) (by assumption) ?_
                      rotate_left; focus (intro w hSw; (try dsimp only at hSw); go_simp; try (with_reducible rfl); done)
                      try simp only [List.getElem_toArray, List.getElem_cons_zero, List.getElem_cons_succ, Act.put, List.setIfInBounds_toArray, List.set_cons_zero, List.set_cons_succ]
                      refine wpAnyH_take (i := 5) (v := ?_) rfl (by kernel_rfl) (by kernel_rfl) (by kernel_rfl) (fun _ _ _ h => h) (Or.inl ⟨by rfl, ?_⟩) (by assumption) ?_
                      rotate_left; focus (intro w hSw; (try dsimp only at hSw); go_simp; try (with_reducible rfl); done)
                      try simp only [List.getElem_toArray, List.getElem_cons_zero, List.getElem_cons_succ, Act.put, List.setIfInBounds_toArray, List.set_cons_zero, List.set_cons_succ]
                      refine wpAnyH_take (i := 6) (v := ?_) rfl (by kernel_rfl) (by kernel_rfl) (by kernel_rfl) (fun _ _ _ h => h) (Or.inl ⟨by rfl, ?_⟩) (by assumption) ?_
                      rotate_left; focus (intro w hSw; (try dsimp only at hSw); go_simp; try (with_reducible rfl); done)
                      try simp only [List.getElem_toArray, List.getElem_cons_zero, List.getElem_cons_succ, Act.put, List.setIfInBounds_toArray, List.set_cons_zero, List.set_cons_succ]
                      refine wpAnyH_take (i := 7) (v := ?_) rfl (by kernel_rfl) (by kernel_rfl) (by kernel_rfl) (fun _ _ _ h => h) (Or.inl ⟨by rfl, ?_⟩) (by assumption) ?_
                      rotate_left; focus (intro w hSw; (try dsimp only at hSw); go_simp; try (with_reducible rfl); done)
                      try simp only [List.getElem_toArray, List.getElem_cons_zero, List.getElem_cons_succ, Act.put, List.setIfInBounds_toArray, List.set_cons_zero, List.set_cons_succ]
                      refine wpAnyH_ready (rs := [8]) (by kernel_rfl) (by simp) ?_
                      refine AllReadyH.cons rfl (fun K hK => ?_) AllReadyH.nil
                      go_simp
                      refine hK.out _ _ ?_ (fun hHeld => ?_)
                      · (try dsimp only); (first | exact ⟨t0, t1, t2, z0⟩ | exact ⟨t0', t1', t2', z0'⟩ | go_keep)
                      clear hK K
                      try simp only [List.getElem_toArray, List.getElem_cons_zero, List.getElem_cons_succ, Act.put, List.setIfInBounds_toArray, List.set_cons_zero, List.set_cons_succ]
                      refine wpAnyH_ready (rs := [9]) (by kernel_rfl) (by simp) ?_
                      refine AllReadyH.cons rfl (fun K hK => ?_) AllReadyH.nil
                      (refine St.step1n (o := ⟨some 136, _, _, _, _, _⟩) Tr.partE ?h4_1 (.tmp 130) (.tmp 135) ?h4_2 ?h4_3 HSTB.out (Tr.partV ((.mk (p : Int) 0 ((Q.map (·.1)).map (·.1)), .slice at2 body.length ct, fp), h0)) ?h4_4 wr.heap.size 1 ?h4_5 ?h4_6 ?h4_7 ?h4_8 ?h4_9 ?h4_10 ?h4_11; (case h4_1 => rfl); (case h4_2 => rfl); (case h4_6 => rfl); (case h4_7 => rfl); (case h4_4 => rfl); (case h4_3 => rfl); (case h4_5 => rfl); (case h4_8 => exact Tr.partOne (HOK2.out _ (List.mem_append.2 (.inr (.head _))))); (case h4_9 => (simp only [List.length_nil]; unfold maxLen; omega)); (case h4_10 => (simp only [List.length_nil]; omega)); intro g' n9 cap' w9 hst9; obtain ⟨t0, t1, t2⟩ := hst9.at3 3 rfl; obtain ⟨z0, z1⟩ := hst9.at2 4 rfl; have HST9 := Lib.hid (((hst9.pick [1, 2, 0, 5, 6] 7 rfl rfl).snoc).pick [1, 0, 2, 3] 4 rfl rfl); clear hst9)
                      refine hK.out _ _ ?_ (fun hHeld => ?_)
                      · (try dsimp only); (first | exact ⟨t0, t1, t2, z0⟩ | exact ⟨t0', t1', t2', z0'⟩ | go_keep)
                      clear hK K
                      try simp only [List.getElem_toArray, List.getElem_cons_zero, List.getElem_cons_succ, Act.put, List.setIfInBounds_toArray, List.set_cons_zero, List.set_cons_succ]
                      refine wpAnyH_take (i := 10) (v := ?_) rfl (by kernel_rfl) (by kernel_rfl) (by kernel_rfl) (fun _ _ _ h => h) (Or.inl ⟨by rfl, ?_⟩) (by assumption) ?_
                      rotate_left; focus (intro w hSw; (try dsimp only at hSw); go_simp; try (with_reducible rfl); done)
                      try simp only [List.getElem_toArray, List.getElem_cons_zero, List.getElem_cons_succ, Act.put, List.setIfInBounds_toArray, List.set_cons_zero, List.set_cons_succ]
                      refine wpAnyH_done (by kernel_rfl) ?_ _
                      clear t0 t1 t2 z0 z1 t0' t1' t2' z0'
                      go_wp2
                      go_roundg (E.length - (k + 1))
                      case measure => have := HGK.out; omega
                      case rel => exact ⟨k + 1, c, P.take 0 ++ [((.mk (p : Int) 0 ((Q.map (·.1)).map (·.1)), .slice at2 body.length ct, fp), h0)], by omega, rfl, by go_num, rfl, by omega, by rw [List.length_append, List.length_singleton, List.length_take]; omega, HOK2, HFU2, by rw [List.map_append, List.map_append]; exact HST9.out⟩
                    · simp only [Value.slice.injEq] at hn1
                      obtain ⟨rfl, -, rfl⟩ := hn1
                      have hs2 := Tr.sliceTo (av := some ⟨g, 0, none⟩) (cv := cv) (n := P.length) f0 hmi hcv (.inr ⟨g, rfl⟩)
                      have HSTB := Lib.hid (HST3.out.pick [0, 1, 2, 3, 5, 6] 7 rfl rfl)
                      have HRD := Lib.hid (Tr.ownRead (Own.take (HST3.out.ownAt 4 rfl) (fun u hu => by obtain ⟨z, _, rfl⟩ := List.mem_map.1 hu; rfl) f0 (by rw [List.length_map]; omega)))
                      have HSTC := Lib.hid (HST3.out.skip (.cells #[.int .i64 p, .int .i64 0, .slice at2 body.length ct, .int .i64 h0] 211))
                      obtain ⟨t0', t1', t2'⟩ := HSTC.out.at3 2 rfl
                      obtain ⟨z0', z1'⟩ := HSTC.out.at2 3 rfl
                      clear hmi hcv
                      go_wp2
                      refine wp_region_held_drew (S := (fun w' => w'.cell? ⟨wo.heap.size + 1 + 1, 0, none⟩ = some (.int .i64 p) ∧ w'.cell? ⟨wo.heap.size + 1 + 1, 1, none⟩ = some (.int .i64 0) ∧ w'.cell? ⟨wo.heap.size + 1 + 1, 2, none⟩ = some (.slice at2 body.length ct) ∧ w'.cell? ⟨wo.heap.size + 1, 0, none⟩ = some (.int .i64 h0))) (by kernel_rfl) ?_ (fun hHeld => ?_)
                      · (try dsimp only); (first | exact ⟨t0, t1, t2, z0⟩ | exact ⟨t0', t1', t2', z0'⟩ | go_keep)

                      refine wpAnyH_take (i := 0) (v := ?_) rfl (by kernel_rfl) (by kernel_rfl) (by kernel_rfl) (fun _ _ _ h => h) (Or.inl ⟨by rfl, ?_⟩) (by assumption) ?_
                      rotate_left; focus (intro w hSw; (try dsimp only at hSw); go_simp; try (with_reducible rfl); done)
                      try simp only [List.getElem_toArray, List.getElem_cons_zero, List.getElem_cons_succ, Act.put, List.setIfInBounds_toArray, List.set_cons_zero, List.set_cons_succ]
                      refine wpAnyH_take (i := 1) (v := ?_) rfl (by kernel_rfl) (by kernel_rfl) (by kernel_rfl) (fun _ _ _ h => h) (Or.inl ⟨by rfl, ?_⟩) (by assumption) ?_
                      rotate_left; focus (intro w hSw; (try dsimp only at hSw); go_simp; try (with_reducible rfl); done)
                      try simp only [List.getElem_toArray, List.getElem_cons_zero, List.getElem_cons_succ, Act.put, List.setIfInBounds_toArray, List.set_cons_zero, List.set_cons_succ]
                      refine wpAnyH_take (i := 2) (v := ?_) rfl (by kernel_rfl) (by kernel_rfl) (by kernel_rfl) (fun _ _ _ h => h) (Or.inl ⟨by rfl, ?_⟩) (by assumption) ?_
                      rotate_left; focus (intro w hSw; (try dsimp only at hSw); go_simp; try (with_reducible rfl); done)
                      try simp only [List.getElem_toArray, List.getElem_cons_zero, List.getElem_cons_succ, Act.put, List.setIfInBounds_toArray, List.set_cons_zero, List.set_cons_succ]
                      refine wpAnyH_take (i := 3) (v := ?_) rfl (by kernel_rfl) (by kernel_rfl) (by kernel_rfl) (fun _ _ _ h => h) (Or.inl ⟨by rfl, ?_⟩) (by assumption) ?_
                      rotate_left; focus (intro w hSw; (try dsimp only at hSw); go_simp; try (with_reducible rfl); done)
                      try simp only [List.getElem_toArray, List.getElem_cons_zero, List.getElem_cons_succ, Act.put, List.setIfInBounds_toArray, List.set_cons_zero, List.set_cons_succ]
                      refine wpAnyH_take (i := 4) (v := ?_) rfl (by kernel_rfl) (by kernel_rfl) (by kernel_rfl) (fun _ _ _ h => h) (Or.inl ⟨by rfl, ?_⟩) (by assumption) ?_
                      rotate_left; focus (intro w hSw; (try dsimp only at hSw); go_simp; try (with_reducible rfl); done)
                      try simp only [List.getElem_toArray, List.getElem_cons_zero, List.getElem_cons_succ, Act.put, List.setIfInBounds_toArray, List.set_cons_zero, List.set_cons_succ]
                      refine wpAnyH_take (i := 5) (v := ?_) rfl (by kernel_rfl) (by kernel_rfl) (by kernel_rfl) (fun _ _ _ h => h) (Or.inl ⟨by rfl, ?_⟩) (by assumption) ?_
                      rotate_left; focus (intro w hSw; (try dsimp only at hSw); go_simp; try (with_reducible rfl); done)
                      try simp only [List.getElem_toArray, List.getElem_cons_zero, List.getElem_cons_succ, Act.put, List.setIfInBounds_toArray, List.set_cons_zero, List.set_cons_succ]
                      refine wpAnyH_take (i := 6) (v := ?_) rfl (by kernel_rfl) (by kernel_rfl) (by kernel_rfl) (fun _ _ _ h => h) (Or.inl ⟨by rfl, ?_⟩) (by assumption) ?_
                      rotate_left; focus (intro w hSw; (try dsimp only at hSw); go_simp; try (with_reducible rfl); done)
                      try simp only [List.getElem_toArray, List.getElem_cons_zero, List.getElem_cons_succ, Act.put, List.setIfInBounds_toArray, List.set_cons_zero, List.set_cons_succ]
                      refine wpAnyH_take (i := 7) (v := ?_) rfl (by kernel_rfl) (by kernel_rfl) (by kernel_rfl) (fun _ _ _ h => h) (Or.inl ⟨by rfl, ?_⟩) (by assumption) ?_
                      rotate_left; focus (intro w hSw; (try dsimp only at hSw); go_simp; try (with_reducible rfl); done)
                      try simp only [List.getElem_toArray, List.getElem_cons_zero, List.getElem_cons_succ, Act.put, List.setIfInBounds_toArray, List.set_cons_zero, List.set_cons_succ]
                      refine wpAnyH_ready (rs := [8]) (by kernel_rfl) (by simp) ?_
                      refine AllReadyH.cons rfl (fun K hK => ?_) AllReadyH.nil
                      go_simp
                      refine hK.out _ _ ?_ (fun hHeld => ?_)
                      · (try dsimp only); (first | exact ⟨t0, t1, t2, z0⟩ | exact ⟨t0', t1', t2', z0'⟩ | go_keep)
                      clear hK K
                      try simp only [List.getElem_toArray, List.getElem_cons_zero, List.getElem_cons_succ, Act.put, List.setIfInBounds_toArray, List.set_cons_zero, List.set_cons_succ]
                      refine wpAnyH_ready (rs := [9]) (by kernel_rfl) (by simp) ?_
                      refine AllReadyH.cons rfl (fun K hK => ?_) AllReadyH.nil
                      (refine St.stepFull (o := ⟨some 136, _, _, _, _, _⟩) Tr.partE ?h5_1 (.tmp 130) (.tmp 135) ?h5_2 (HSTB.out.skip _) ⟨g, 0, none⟩ ((P.map Tr.partV).take f0) f0 ?h5_3 ?h5_4 ?h5_5 (fun j q hq => bkeep ((Below.refl _ _).alloc (Nat.le_refl _) _) (HRD.out j q hq)) (Tr.partV ((.mk (p : Int) 0 ((Q.map (·.1)).map (·.1)), .slice at2 body.length ct, fp), h0)) ⟨wr.heap.size, 0, none⟩ 1 ?h5_6 ?h5_7 ?h5_8 ?h5_9 ?h5_10 ?h5_11; (case h5_1 => rfl); (case h5_2 => rfl); (case h5_3 => (rw [List.length_take, List.length_map]; omega)); (case h5_4 => rfl); (case h5_5 => (intro u hu; obtain ⟨z, _, rfl⟩ := List.mem_map.1 (List.mem_of_mem_take hu); rfl)); (case h5_6 => rfl); (case h5_7 => rfl); (case h5_8 => (intro j q hq; rw [Tr.addAt]; exact cells_lit (w := wr.drew) _ _ j q hq)); (case h5_9 => (rw [List.length_take, List.length_map]; unfold maxLen; omega)); (case h5_10 => (rw [List.length_take, List.length_map]; omega)); intro g' cap' w9 hst9; obtain ⟨t0, t1, t2⟩ := hst9.at3 3 rfl; obtain ⟨z0, z1⟩ := hst9.at2 4 rfl; have HST9 := Lib.hid (((hst9.pick [1, 2, 0, 5, 6] 7 rfl rfl).snoc).pick [1, 0, 2, 3] 4 rfl rfl); clear hst9)
                      refine hK.out _ _ ?_ (fun hHeld => ?_)
                      · (try dsimp only); (first | exact ⟨t0, t1, t2, z0⟩ | exact ⟨t0', t1', t2', z0'⟩ | go_keep)
                      clear hK K
                      try simp only [List.getElem_toArray, List.getElem_cons_zero, List.getElem_cons_succ, Act.put, List.setIfInBounds_toArray, List.set_cons_zero, List.set_cons_succ]
                      refine wpAnyH_take (i := 10) (v := ?_) rfl (by kernel_rfl) (by kernel_rfl) (by kernel_rfl) (fun _ _ _ h => h) (Or.inl ⟨by rfl, ?_⟩) (by assumption) ?_
                      rotate_left; focus (intro w hSw; (try dsimp only at hSw); go_simp; try (with_reducible rfl); done)
                      try simp only [List.getElem_toArray, List.getElem_cons_zero, List.getElem_cons_succ, Act.put, List.setIfInBounds_toArray, List.set_cons_zero, List.set_cons_succ]
                      refine wpAnyH_done (by kernel_rfl) ?_ _
                      clear t0 t1 t2 z0 z1 t0' t1' t2' z0'
                      go_wp2
                      go_roundg (E.length - (k + 1))
                      case measure => have := HGK.out; omega
                      case rel => exact ⟨k + 1, c, P.take f0 ++ [((.mk (p : Int) 0 ((Q.map (·.1)).map (·.1)), .slice at2 body.length ct, fp), h0)], by omega, rfl, by go_num, rfl, by omega, by rw [List.length_append, List.length_singleton, List.length_take]; omega, HOK2, HFU2, by rw [List.map_append, List.map_append]; rw [List.map_take]; exact HST9.out⟩
            · have HT0 : Hid (T = none) := Lib.hid (by
                rw [Tr.step_bad hxb9 hgood, Tr.step_none] at hfu
                rw [← HT.out]; unfold Tr.ofUp; rw [HU.out, ← hfu])
              obtain ⟨g0, g1, g2⟩ := hst2.at3 4 rfl
              obtain ⟨r0, r1, r2⟩ := hst2.at3 3 rfl
              have f0 := (hst2.nth 3 rfl).celFree 0; have f1 := (hst2.nth 3 rfl).celFree 1; have f2 := (hst2.nth 3 rfl).celFree 2
              have HSTE := Lib.hid (((hst2.pick [3] 5 rfl rfl).setCel 0 (.int .i64 0)).setCel 1 (.int .i64 0) |>.setCel 2 (.slice none 0 0))
              clear hst hst2 hfu HFU HOK
              by_cases ha : x1 = 2
              · subst ha
                have hb : (x2 == (c : Int)) = false := by rw [beq_eq_false_iff_ne]; intro h; exact hxb9 ⟨rfl, h⟩
                clear hleaf hxb9 hgood
                go_wp2
                obtain ⟨r0, r1, r2⟩ := HSTE.out.at3 0 rfl
                refine bodyPost_ret (Tr.resT rfl _ _ _ rfl r0 r1 r2) rfl ?_
                rw [HT0.out, Tr.outc_none HN.out]
                exact Tr.gives_nil HSTE.out
              have ha2 : (x1 == 2) = false := by rw [beq_eq_false_iff_ne]; exact ha
              by_cases hb : x1 = 4
              · subst hb
                by_cases hc : x2 < 0
                · clear hleaf hxb9 hgood
                  go_wp2
                  obtain ⟨r0, r1, r2⟩ := HSTE.out.at3 0 rfl
                  refine bodyPost_ret (Tr.resT rfl _ _ _ rfl r0 r1 r2) rfl ?_
                  rw [HT0.out, Tr.outc_none HN.out]
                  exact Tr.gives_nil HSTE.out
                have hc2 : decide (x2 < 0) = false := decide_eq_false hc
                obtain ⟨p, rfl⟩ := Int.eq_ofNat_of_zero_le (by omega : 0 ≤ x2)
                have hd : (l.length : Int) ≤ p := by
                  rcases Int.lt_or_le (p : Int) l.length with h | h
                  · exact absurd ⟨rfl, by omega, h⟩ hgood
                  · exact h
                clear hleaf hxb9 hgood
                go_wp2
                obtain ⟨r0, r1, r2⟩ := HSTE.out.at3 0 rfl
                refine bodyPost_ret (Tr.resT rfl _ _ _ rfl r0 r1 r2) rfl ?_
                rw [HT0.out, Tr.outc_none HN.out]
                exact Tr.gives_nil HSTE.out
              · have hb2 : (x1 != 4) = true := by simpa using hb
                clear hleaf hxb9 hgood
                go_wp2
                obtain ⟨r0, r1, r2⟩ := HSTE.out.at3 0 rfl
                refine bodyPost_ret (Tr.resT rfl _ _ _ rfl r0 r1 r2) rfl ?_
                rw [HT0.out, Tr.outc_none HN.out]
                exact Tr.gives_nil HSTE.out
        · obtain rfl : k = E.length := by omega
          have hfu := HFU.out
          rw [List.drop_length, List.foldl_nil] at hfu
          subst hfu
          have HT2 : Hid (Tr.ofUp l E = T) := HT
          obtain ⟨g0, g1, g2⟩ := hst.at3 3 rfl
          by_cases h1 : P.length = 1
          · obtain ⟨q, rfl⟩ : ∃ q, P = [q] := by
              rcases P with _ | ⟨q, _ | ⟨q2, r⟩⟩
              · simp at h1
              · exact ⟨q, rfl⟩
              · simp at h1
            rcases (hst.ownAt 0 rfl).shape with ⟨_, hbad⟩ | ⟨g, cap, hn1, -, -⟩
            · simp at hbad
            simp only [Value.slice.injEq] at hn1
            obtain ⟨rfl, -, rfl⟩ := hn1
            obtain ⟨q0, q1, q2, q3⟩ := Tr.cellPart hst 0 (by simp)
            rw [show [q].getD 0 Tr.pz = q from rfl] at q0 q1 q2 q3
            simp only [Nat.zero_mul, Nat.zero_add] at q0 q1 q2 q3
            obtain ⟨hkp, hkt, ao, n', c', hvk⟩ := HOK.out q (.head _)
            obtain ⟨⟨tj, vj, fj⟩, hd⟩ := q
            simp only at hkp hkt hvk q0 q1 q2 q3
            subst hvk
            have HKP := Lib.hid hkp; have HKT := Lib.hid hkt
            have hone : (1 : Int) = (([(((tj, .slice ao n' c', fj), hd) : Tr.P4)].length : Nat) : Int) := rfl
            by_cases hz : hd = 0
            · subst hz
              have HTS : Hid (T = some tj) := Lib.hid (by rw [← HT.out]; unfold Tr.ofUp; rw [HU.out]; rfl)
              have hst4 := Tr.allOne (A := aEnc (Tr.any.sl 40) fj [.slice ao n' c'] tj.kids) (hst.pick [1, 0, 2, 3] 4 rfl rfl)
              obtain ⟨n, hn⟩ := Tr.any_of hkp hkt (hst4.drew.encAt 0 rfl)
              have HAN := Lib.hid hn
              have HP2 := Lib.hid (Enc.mono _ HP.out (fun _ h => h) (fun b hb => hst4.drew.bel.block b (HF.out b hb)))
              have HF2 := Lib.hid (fun b (hb : F b) => Nat.lt_of_lt_of_le (HF.out b hb) hst4.drew.bel.size)
              have HTY := Lib.hid (trTold_yes tg ng _ l (fun b => b < _) n tj (.slice ao n' c') _ (fun b hb => hb) (Enc.mono _ HP2.out (fun b hb => HF2.out b hb) (fun _ _ => rfl)) HAN.out)
              have hEn := HIE.out n _ _ _ tj HAN.out
              rw [hEn] at HTY
              have HST4 := Lib.hid hst4.drew
              obtain ⟨tp, htp⟩ : ∃ z, z = tj.prod := ⟨_, rfl⟩
              obtain ⟨tt, htt⟩ : ∃ z, z = tj.tok := ⟨_, rfl⟩
              have HTP := Lib.hid htp; have HTT := Lib.hid htt
              rw [← htp] at q0
              rw [← htt] at q1
              rw [← htp, ← htt] at HTY
              clear hst4 hn hEn HP2 HF2 HAN htp htt hst HFU HOK hkp hkt hone HT HU HT2
              by_cases hE0 : eT tj = 0
              · have HE0 := Lib.hid hE0
                clear hE0
                go_wp2
                refine wp_region_held_drew (S := (fun w' => w'.cell? ⟨w.heap.size, 0, none⟩ = some (.int .i64 tg) ∧ w'.cell? ⟨w.heap.size, 1, none⟩ = some (.int .i64 ng) ∧ w'.cell? ⟨w.heap.size, 2, none⟩ = some (.slice ap l.length cp) ∧ w'.cell? ⟨g, 0, none⟩ = some (.int .i64 tp) ∧ w'.cell? ⟨g, 1, none⟩ = some (.int .i64 tt) ∧ w'.cell? ⟨g, 2, none⟩ = some (.slice ao n' c'))) (by kernel_rfl) ?_ (fun hHeld => ?_)
                · (try dsimp only); (first | exact ⟨g0, g1, g2, q0, q1, q2⟩ | exact ⟨g0', g1', g2', q0', q1', q2'⟩ | go_keep)

                refine wpAnyH_take (i := 0) (v := ?_) rfl (by kernel_rfl) (by kernel_rfl) (by kernel_rfl) (fun _ _ _ h => h) (Or.inl ⟨by rfl, ?_⟩) (by assumption) ?_
                rotate_left; focus (intro w hSw; (try dsimp only at hSw); go_simp; try (with_reducible rfl); done)
                try simp only [List.getElem_toArray, List.getElem_cons_zero, List.getElem_cons_succ, Act.put, List.setIfInBounds_toArray, List.set_cons_zero, List.set_cons_succ]
                refine wpAnyH_take (i := 1) (v := ?_) rfl (by kernel_rfl) (by kernel_rfl) (by kernel_rfl) (fun _ _ _ h => h) (Or.inl ⟨by rfl, ?_⟩) (by assumption) ?_
                rotate_left; focus (intro w hSw; (try dsimp only at hSw); go_simp; try (with_reducible rfl); done)
                try simp only [List.getElem_toArray, List.getElem_cons_zero, List.getElem_cons_succ, Act.put, List.setIfInBounds_toArray, List.set_cons_zero, List.set_cons_succ]
                refine wpAnyH_take (i := 2) (v := ?_) rfl (by kernel_rfl) (by kernel_rfl) (by kernel_rfl) (fun _ _ _ h => h) (Or.inl ⟨by rfl, ?_⟩) (by assumption) ?_
                rotate_left; focus (intro w hSw; (try dsimp only at hSw); go_simp; try (with_reducible rfl); done)
                try simp only [List.getElem_toArray, List.getElem_cons_zero, List.getElem_cons_succ, Act.put, List.setIfInBounds_toArray, List.set_cons_zero, List.set_cons_succ]
                refine wpAnyH_take (i := 3) (v := ?_) rfl (by kernel_rfl) (by kernel_rfl) (by kernel_rfl) (fun _ _ _ h => h) (Or.inl ⟨by rfl, ?_⟩) (by assumption) ?_
                rotate_left; focus (intro w hSw; (try dsimp only at hSw); go_simp; try (with_reducible rfl); done)
                try simp only [List.getElem_toArray, List.getElem_cons_zero, List.getElem_cons_succ, Act.put, List.setIfInBounds_toArray, List.set_cons_zero, List.set_cons_succ]
                refine wpAnyH_take (i := 4) (v := ?_) rfl (by kernel_rfl) (by kernel_rfl) (by kernel_rfl) (fun _ _ _ h => h) (Or.inl ⟨by rfl, ?_⟩) (by assumption) ?_
                rotate_left; focus (intro w hSw; (try dsimp only at hSw); go_simp; try (with_reducible rfl); done)
                try simp only [List.getElem_toArray, List.getElem_cons_zero, List.getElem_cons_succ, Act.put, List.setIfInBounds_toArray, List.set_cons_zero, List.set_cons_succ]
                refine wpAnyH_ready (rs := [5]) (by kernel_rfl) (by simp) ?_
                refine AllReadyH.cons rfl (fun K hK => ?_) AllReadyH.nil
                go_simp
                (go_at_call 116; refine HTY.out.mono ?_; rintro e w8 ⟨hb8, hx8, -⟩; obtain rfl := hx8 HE0.out; have hst8 := HST4.out.call hb8; obtain ⟨q0, q1, q2, -⟩ := Tr.cellPart (hst8.nth 1 rfl) 0 (by simp); rw [show [(((tj, Value.slice ao n' c', fj), (0 : Int)) : Tr.P4)].getD 0 Tr.pz = ((tj, .slice ao n' c', fj), 0) from rfl] at q0 q1 q2; simp only [Nat.zero_mul, Nat.zero_add, ← HTP.out, ← HTT.out] at q0 q1 q2; obtain ⟨g0, g1, g2⟩ := hst8.at3 3 rfl; obtain ⟨r0, r1, r2⟩ := hst8.at3 2 rfl; have f0 := (hst8.nth 2 rfl).celFree 0; have f1 := (hst8.nth 2 rfl).celFree 1; have f2 := (hst8.nth 2 rfl).celFree 2; have HST9 := Lib.hid (((hst8.pick [2, 0, 1, 3] 4 rfl rfl).setCel 0 (.int .i64 tp)).setCel 1 (.int .i64 tt) |>.setCel 2 (.slice ao n' c')); obtain ⟨q0', q1', q2', -⟩ := Tr.cellPart (HST9.out.nth 2 rfl) 0 (by simp); rw [show [(((tj, Value.slice ao n' c', fj), (0 : Int)) : Tr.P4)].getD 0 Tr.pz = ((tj, .slice ao n' c', fj), 0) from rfl] at q0' q1' q2'; simp only [Nat.zero_mul, Nat.zero_add, ← HTP.out, ← HTT.out] at q0' q1' q2'; obtain ⟨g0', g1', g2'⟩ := HST9.out.at3 3 rfl; clear hst8 hb8)
                refine hK.out _ _ ?_ (fun hHeld => ?_)
                · (try dsimp only); (first | exact ⟨g0, g1, g2, q0, q1, q2⟩ | exact ⟨g0', g1', g2', q0', q1', q2'⟩ | go_keep)
                clear hK K
                try simp only [List.getElem_toArray, List.getElem_cons_zero, List.getElem_cons_succ, Act.put, List.setIfInBounds_toArray, List.set_cons_zero, List.set_cons_succ]
                refine wpAnyH_take (i := 6) (v := ?_) rfl (by kernel_rfl) (by kernel_rfl) (by kernel_rfl) (fun _ _ _ h => h) (Or.inl ⟨by rfl, ?_⟩) (by assumption) ?_
                rotate_left; focus (intro w hSw; (try dsimp only at hSw); go_simp; try (with_reducible rfl); done)
                try simp only [List.getElem_toArray, List.getElem_cons_zero, List.getElem_cons_succ, Act.put, List.setIfInBounds_toArray, List.set_cons_zero, List.set_cons_succ]
                refine wpAnyH_take (i := 7) (v := ?_) rfl (by kernel_rfl) (by kernel_rfl) (by kernel_rfl) (fun _ _ _ h => h) (Or.inl ⟨by rfl, ?_⟩) (by assumption) ?_
                rotate_left; focus (intro w hSw; (try dsimp only at hSw); go_simp; try (with_reducible rfl); done)
                try simp only [List.getElem_toArray, List.getElem_cons_zero, List.getElem_cons_succ, Act.put, List.setIfInBounds_toArray, List.set_cons_zero, List.set_cons_succ]
                refine wpAnyH_ready (rs := [8]) (by kernel_rfl) (by simp) ?_
                refine AllReadyH.cons rfl (fun K hK => ?_) AllReadyH.nil
                go_simp
                refine hK.out _ _ ?_ (fun hHeld => ?_)
                · (try dsimp only); (first | exact ⟨g0, g1, g2, q0, q1, q2⟩ | exact ⟨g0', g1', g2', q0', q1', q2'⟩ | go_keep)
                clear hK K
                try simp only [List.getElem_toArray, List.getElem_cons_zero, List.getElem_cons_succ, Act.put, List.setIfInBounds_toArray, List.set_cons_zero, List.set_cons_succ]
                refine wpAnyH_take (i := 9) (v := ?_) rfl (by kernel_rfl) (by kernel_rfl) (by kernel_rfl) (fun _ _ _ h => h) (Or.inl ⟨by rfl, ?_⟩) (by assumption) ?_
                rotate_left; focus (intro w hSw; (try dsimp only at hSw); go_simp; try (with_reducible rfl); done)
                try simp only [List.getElem_toArray, List.getElem_cons_zero, List.getElem_cons_succ, Act.put, List.setIfInBounds_toArray, List.set_cons_zero, List.set_cons_succ]
                refine wpAnyH_done (by kernel_rfl) ?_ _
                clear g0 g1 g2 q0 q1 q2 g0' g1' g2' q0' q1' q2' r0 r1 r2 f0 f1 f2
                go_wp2
                obtain ⟨r0, r1, r2⟩ := HST9.out.at3 0 rfl
                refine bodyPost_ret (Tr.resT rfl _ _ _ rfl r0 r1 r2) rfl ?_
                rw [HTS.out, Tr.outc_ok HN.out HE0.out]
                exact ⟨ao, n', c', fj, by rw [HTP.out, HTT.out]; rfl, HKP.out, HKT.out, HST9.out.nth 1 rfl⟩
              · have HE0 := Lib.hid hE0
                clear hE0
                go_wp2
                refine wp_region_held_drew (S := (fun w' => w'.cell? ⟨w.heap.size, 0, none⟩ = some (.int .i64 tg) ∧ w'.cell? ⟨w.heap.size, 1, none⟩ = some (.int .i64 ng) ∧ w'.cell? ⟨w.heap.size, 2, none⟩ = some (.slice ap l.length cp) ∧ w'.cell? ⟨g, 0, none⟩ = some (.int .i64 tp) ∧ w'.cell? ⟨g, 1, none⟩ = some (.int .i64 tt) ∧ w'.cell? ⟨g, 2, none⟩ = some (.slice ao n' c'))) (by kernel_rfl) ?_ (fun hHeld => ?_)
                · (try dsimp only); (first | exact ⟨g0, g1, g2, q0, q1, q2⟩ | exact ⟨g0', g1', g2', q0', q1', q2'⟩ | go_keep)

                refine wpAnyH_take (i := 0) (v := ?_) rfl (by kernel_rfl) (by kernel_rfl) (by kernel_rfl) (fun _ _ _ h => h) (Or.inl ⟨by rfl, ?_⟩) (by assumption) ?_
                rotate_left; focus (intro w hSw; (try dsimp only at hSw); go_simp; try (with_reducible rfl); done)
                try simp only [List.getElem_toArray, List.getElem_cons_zero, List.getElem_cons_succ, Act.put, List.setIfInBounds_toArray, List.set_cons_zero, List.set_cons_succ]
                refine wpAnyH_take (i := 1) (v := ?_) rfl (by kernel_rfl) (by kernel_rfl) (by kernel_rfl) (fun _ _ _ h => h) (Or.inl ⟨by rfl, ?_⟩) (by assumption) ?_
                rotate_left; focus (intro w hSw; (try dsimp only at hSw); go_simp; try (with_reducible rfl); done)
                try simp only [List.getElem_toArray, List.getElem_cons_zero, List.getElem_cons_succ, Act.put, List.setIfInBounds_toArray, List.set_cons_zero, List.set_cons_succ]
                refine wpAnyH_take (i := 2) (v := ?_) rfl (by kernel_rfl) (by kernel_rfl) (by kernel_rfl) (fun _ _ _ h => h) (Or.inl ⟨by rfl, ?_⟩) (by assumption) ?_
                rotate_left; focus (intro w hSw; (try dsimp only at hSw); go_simp; try (with_reducible rfl); done)
                try simp only [List.getElem_toArray, List.getElem_cons_zero, List.getElem_cons_succ, Act.put, List.setIfInBounds_toArray, List.set_cons_zero, List.set_cons_succ]
                refine wpAnyH_take (i := 3) (v := ?_) rfl (by kernel_rfl) (by kernel_rfl) (by kernel_rfl) (fun _ _ _ h => h) (Or.inl ⟨by rfl, ?_⟩) (by assumption) ?_
                rotate_left; focus (intro w hSw; (try dsimp only at hSw); go_simp; try (with_reducible rfl); done)
                try simp only [List.getElem_toArray, List.getElem_cons_zero, List.getElem_cons_succ, Act.put, List.setIfInBounds_toArray, List.set_cons_zero, List.set_cons_succ]
                refine wpAnyH_take (i := 4) (v := ?_) rfl (by kernel_rfl) (by kernel_rfl) (by kernel_rfl) (fun _ _ _ h => h) (Or.inl ⟨by rfl, ?_⟩) (by assumption) ?_
                rotate_left; focus (intro w hSw; (try dsimp only at hSw); go_simp; try (with_reducible rfl); done)
                try simp only [List.getElem_toArray, List.getElem_cons_zero, List.getElem_cons_succ, Act.put, List.setIfInBounds_toArray, List.set_cons_zero, List.set_cons_succ]
                refine wpAnyH_ready (rs := [5]) (by kernel_rfl) (by simp) ?_
                refine AllReadyH.cons rfl (fun K hK => ?_) AllReadyH.nil
                go_simp
                (go_at_call 116; refine HTY.out.mono ?_; rintro e w8 ⟨hb8, -, hx8⟩; obtain rfl := hx8 HE0.out; have hst8 := HST4.out.call hb8; obtain ⟨q0, q1, q2, -⟩ := Tr.cellPart (hst8.nth 1 rfl) 0 (by simp); rw [show [(((tj, Value.slice ao n' c', fj), (0 : Int)) : Tr.P4)].getD 0 Tr.pz = ((tj, .slice ao n' c', fj), 0) from rfl] at q0 q1 q2; simp only [Nat.zero_mul, Nat.zero_add, ← HTP.out, ← HTT.out] at q0 q1 q2; obtain ⟨g0, g1, g2⟩ := hst8.at3 3 rfl; obtain ⟨r0, r1, r2⟩ := hst8.at3 2 rfl; have f0 := (hst8.nth 2 rfl).celFree 0; have f1 := (hst8.nth 2 rfl).celFree 1; have f2 := (hst8.nth 2 rfl).celFree 2; have HST9 := Lib.hid (((hst8.pick [2, 0, 1, 3] 4 rfl rfl).setCel 0 (.int .i64 0)).setCel 1 (.int .i64 0) |>.setCel 2 (.slice none 0 0)); obtain ⟨q0', q1', q2', -⟩ := Tr.cellPart (HST9.out.nth 2 rfl) 0 (by simp); rw [show [(((tj, Value.slice ao n' c', fj), (0 : Int)) : Tr.P4)].getD 0 Tr.pz = ((tj, .slice ao n' c', fj), 0) from rfl] at q0' q1' q2'; simp only [Nat.zero_mul, Nat.zero_add, ← HTP.out, ← HTT.out] at q0' q1' q2'; obtain ⟨g0', g1', g2'⟩ := HST9.out.at3 3 rfl; clear hst8 hb8)
                refine hK.out _ _ ?_ (fun hHeld => ?_)
                · (try dsimp only); (first | exact ⟨g0, g1, g2, q0, q1, q2⟩ | exact ⟨g0', g1', g2', q0', q1', q2'⟩ | go_keep)
                clear hK K
                try simp only [List.getElem_toArray, List.getElem_cons_zero, List.getElem_cons_succ, Act.put, List.setIfInBounds_toArray, List.set_cons_zero, List.set_cons_succ]
                refine wpAnyH_take (i := 6) (v := ?_) rfl (by kernel_rfl) (by kernel_rfl) (by kernel_rfl) (fun _ _ _ h => h) (Or.inl ⟨by rfl, ?_⟩) (by assumption) ?_
                rotate_left; focus (intro w hSw; (try dsimp only at hSw); go_simp; try (with_reducible rfl); done)
                try simp only [List.getElem_toArray, List.getElem_cons_zero, List.getElem_cons_succ, Act.put, List.setIfInBounds_toArray, List.set_cons_zero, List.set_cons_succ]
                refine wpAnyH_take (i := 7) (v := ?_) rfl (by kernel_rfl) (by kernel_rfl) (by kernel_rfl) (fun _ _ _ h => h) (Or.inl ⟨by rfl, ?_⟩) (by assumption) ?_
                rotate_left; focus (intro w hSw; (try dsimp only at hSw); go_simp; try (with_reducible rfl); done)
                try simp only [List.getElem_toArray, List.getElem_cons_zero, List.getElem_cons_succ, Act.put, List.setIfInBounds_toArray, List.set_cons_zero, List.set_cons_succ]
                refine wpAnyH_ready (rs := [8]) (by kernel_rfl) (by simp) ?_
                refine AllReadyH.cons rfl (fun K hK => ?_) AllReadyH.nil
                go_simp
                refine hK.out _ _ ?_ (fun hHeld => ?_)
                · (try dsimp only); (first | exact ⟨g0, g1, g2, q0, q1, q2⟩ | exact ⟨g0', g1', g2', q0', q1', q2'⟩ | go_keep)
                clear hK K
                try simp only [List.getElem_toArray, List.getElem_cons_zero, List.getElem_cons_succ, Act.put, List.setIfInBounds_toArray, List.set_cons_zero, List.set_cons_succ]
                refine wpAnyH_take (i := 9) (v := ?_) rfl (by kernel_rfl) (by kernel_rfl) (by kernel_rfl) (fun _ _ _ h => h) (Or.inl ⟨by rfl, ?_⟩) (by assumption) ?_
                rotate_left; focus (intro w hSw; (try dsimp only at hSw); go_simp; try (with_reducible rfl); done)
                try simp only [List.getElem_toArray, List.getElem_cons_zero, List.getElem_cons_succ, Act.put, List.setIfInBounds_toArray, List.set_cons_zero, List.set_cons_succ]
                refine wpAnyH_done (by kernel_rfl) ?_ _
                clear g0 g1 g2 q0 q1 q2 g0' g1' g2' q0' q1' q2' r0 r1 r2 f0 f1 f2
                go_wp2
                obtain ⟨r0, r1, r2⟩ := HST9.out.at3 0 rfl
                refine bodyPost_ret (Tr.resT rfl _ _ _ rfl r0 r1 r2) rfl ?_
                rw [HTS.out, Tr.outc_bad HN.out HE0.out]
                exact Tr.gives_nil HST9.out
            · have hz2 : (hd == 0) = false := by rw [beq_eq_false_iff_ne]; exact hz
              have HT0 : Hid (T = none) := Lib.hid (by rw [← HT.out]; unfold Tr.ofUp; rw [HU.out]; simp [Tr.plain, hz])
              obtain ⟨r0, r1, r2⟩ := hst.at3 2 rfl
              have f0 := (hst.nth 2 rfl).celFree 0; have f1 := (hst.nth 2 rfl).celFree 1; have f2 := (hst.nth 2 rfl).celFree 2
              have HSTE := Lib.hid (((hst.pick [2] 4 rfl rfl).setCel 0 (.int .i64 0)).setCel 1 (.int .i64 0) |>.setCel 2 (.slice none 0 0))
              clear hst HFU HOK hz hkp hkt hone
              go_wp2
              obtain ⟨r0, r1, r2⟩ := HSTE.out.at3 0 rfl
              refine bodyPost_ret (Tr.resT rfl _ _ _ rfl r0 r1 r2) rfl ?_
              rw [HT0.out, Tr.outc_none HN.out]
              exact Tr.gives_nil HSTE.out
          · have HT0 : Hid (T = none) := Lib.hid (by
              rw [← HT.out]; unfold Tr.ofUp; rw [HU.out]
              rcases P with _ | ⟨q, _ | ⟨q2, r⟩⟩
              · rfl
              · simp at h1
              · rfl)
            have hne : ((P.length : Int) == 1) = false := by rw [beq_eq_false_iff_ne]; omega
            obtain ⟨r0, r1, r2⟩ := hst.at3 2 rfl
            have f0 := (hst.nth 2 rfl).celFree 0; have f1 := (hst.nth 2 rfl).celFree 1; have f2 := (hst.nth 2 rfl).celFree 2
            have HSTE := Lib.hid (((hst.pick [2] 4 rfl rfl).setCel 0 (.int .i64 0)).setCel 1 (.int .i64 0) |>.setCel 2 (.slice none 0 0))
            clear hst HFU HOK h1
            go_wp2
            obtain ⟨r0, r1, r2⟩ := HSTE.out.at3 0 rfl
            refine bodyPost_ret (Tr.resT rfl _ _ _ rfl r0 r1 r2) rfl ?_
            rw [HT0.out, Tr.outc_none HN.out]
            exact Tr.gives_nil HSTE.out
  · rw [Tr.outc_gr hg]
    rw [if_neg hg] at HC
    have hne : (Gr.err tg ng l != 0) = true := by simpa using hg
    generalize Gr.err tg ng l = G at *
    go_enter Try.func51, Try.ntmps51
    go_wp2_with (fail)
    go_at_call 114
    refine HC.out.mono ?_
    rintro e w1 ⟨rfl, hb1⟩
    have hst1 := HST.out.call hb1
    obtain ⟨r0, r1, r2, f0, f1, f2⟩ := hst1.cel3
    have HST1 := Lib.hid (hst1.setCel 0 (.int .i64 0) |>.setCel 1 (.int .i64 0) |>.setCel 2 (.slice none 0 0))
    clear hst1 hb1 HC HST g0 g1 g2
    go_wp2
    obtain ⟨r0, r1, r2⟩ := HST1.out.at3 0 rfl
    refine bodyPost_ret (Tr.resT rfl _ _ _ rfl r0 r1 r2) rfl ?_
    exact Tr.gives_nil HST1.out
end Go.Proofs.Ytldapomcjfkeeaa
