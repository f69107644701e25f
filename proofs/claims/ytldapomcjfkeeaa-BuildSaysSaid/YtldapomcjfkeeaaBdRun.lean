/-
  run of package build: what it computes.
-/
import Derived.Test.YtldapomcjfkeeaaBdRed
import Derived.Test.YtldapomcjfkeeaaBdChk
import Derived.Test.YtldapomcjfkeeaaClone
import Derived.Test.YtldapomcjfkeeaaEvtEq
import Derived.Test.YtldapomcjfkeeaaPairSet
import Derived.Deep.RegionLaw
namespace Go.Proofs.Ytldapomcjfkeeaa
set_option linter.unusedVariables false
open Go.ChangeShapes Go.WideShapes Go.ChangeAt Go.RowKit

theorem evtE2 : ET Try.prog 75 81 2 16 := ET.mk' Try.underlying75 (z := .agg #[.int .i64 0, .int .i64 0]) (by kernel_rfl) rfl (by decide)
theorem pair_one2 (p : Int × Int) : ∀ q ∈ (pairV p).cells.toList, q.oneCell' = true := by
  intro q hq; simp [pairV, Value.cells] at hq; rcases hq with h | h <;> subst h <;> rfl
theorem int_one2 (x : Int) : ∀ q ∈ (Value.int .i64 x).cells.toList, q.oneCell' = true := by
  intro q hq; simp [Value.cells] at hq; subst hq; rfl
namespace Bd
def RetRun (x : Int × List Int × List (Int × Int)) (w : World) (e : Ending) (w' : World) : Prop := ∃ vs ve, e = .returned (.tuple #[vs, ve, .int .i64 x.1]) ∧ St w w' [aOwn 3 1 vs (x.2.1.map (Value.int .i64)), aOwn 81 2 ve (x.2.2.map pairV)]
/-- The act that the table tells is right. -/
theorem act_right {t n : Int} {l : List (Int × List (Int × Int))} {acts : List (List (Int × Int))} {gts : List (List Int)} (h : Tb.all t n l acts gts = 0) {st : List Int} (hp : 0 < st.length) (ha : st.any (out acts.length) = false) {c : Nat} (hc : (c : Int) ≤ t) :
    0 ≤ st.getD (st.length - 1) 0 ∧ st.getD (st.length - 1) 0 < acts.length ∧ ((acts.getD (st.getD (st.length - 1) 0).toNat []).length : Int) = t + 1 ∧ Tb.right t l.length acts.length (act acts st c) c = true := by
  obtain ⟨h1, h2, h3, h4, h5⟩ := tb_zero h
  have hx := any_out ha (st.length - 1) (by omega)
  obtain ⟨a1, _, a3, _⟩ := h5 (st.getD (st.length - 1) 0).toNat (by omega)
  refine ⟨hx.1, hx.2, a1, ?_⟩
  have := a3 c (by omega)
  unfold act
  exact this
theorem red_some {t n : Int} {l : List (Int × List (Int × Int))} {acts : List (List (Int × Int))} {gts : List (List Int)} (h : Tb.all t n l acts gts = 0) {st s2 : List Int} {p : Nat} (hp : p < l.length) (ha : st.any (out acts.length) = false) (hr : red gts st (l.getD p (0, [])) = some s2) :
    0 < s2.length ∧ s2.any (out acts.length) = false := by
  by_cases h1 : st.length ≤ (l.getD p (0, [])).2.length
  · rw [red_short h1] at hr; cases hr
  by_cases h2 : dest gts st (st.length - (l.getD p (0, [])).2.length) (l.getD p (0, [])).1 < 0
  · rw [red_neg h1 h2] at hr; cases hr
  rw [red_ok h1 h2] at hr
  cases hr
  refine ⟨by simp, any_red ha (by omega) ?_⟩
  unfold dest
  exact (dest_in h hp (any_out ha (st.length - (l.getD p (0, [])).2.length - 1) (by omega))).2.2.2
def RunRel (l : List (Int × List (Int × Int))) (acts : List (List (Int × Int))) (gts : List (List Int)) (seen : Int) (c : Nat) (X : Int × List Int × List (Int × Int)) (w : World) (μ : List Asrt) (a b i : Value) (wr : World) : Prop :=
  ∃ (n : Nat) (st : List Int) (out : List (Int × Int)), n ≤ 2000 ∧ i = .int .i64 n ∧ 0 < st.length ∧ st.length ≤ 60 ∧ out.length ≤ n ∧ St w wr (aOwn 3 1 a (st.map (Value.int .i64)) :: aOwn 81 2 b (out.map pairV) :: μ) ∧
    Hid (st.any (Bd.out acts.length) = false) ∧ Hid (go l acts gts seen c (2000 - n) st out = X)
end Bd

set_option maxRecDepth 100000 in
set_option maxHeartbeats 16000000 in
theorem bdRun_any (t n seen ov : Int) (dn : Bool) (vp va vg vs : Value) (l : List (Int × List (Int × Int))) (acts : List (List (Int × Int))) (gts : List (List Int)) (st : List Int) (c : Nat) (w : World) (F : Nat → Prop) (hF : ∀ b, F b → b < w.heap.size) (h : Enc.prods.R F w [vp] l)
    (ha : ((Enc.two.sl 16).sl 24).R F w [va] acts) (hg : (((Enc.int .i64).sl 8).sl 24).R F w [vg] gts) (hs : ((Enc.int .i64).sl 8).R F w [vs] st) (he : Tb.all t n l acts gts = 0) (hc : (c : Int) ≤ t) (hsn : 0 ≤ seen ∧ seen ≤ 1099511627776)
    (hp : 0 < st.length) (h60 : st.length ≤ 60) (hany : st.any (Bd.out acts.length) = false) :
    Calls Try.prog 123 #[.agg #[.int .i64 t, .int .i64 n, vp], .agg #[va, vg], .agg #[vs, .int .i64 seen, .int .i64 ov, .bool dn], .int .i64 c] w (Bd.RetRun (Bd.go l acts gts seen c 2000 st []) w) := by
  have hst := ((((St.init w).alloc #[.int .i64 t, .int .i64 n, vp] 68).alloc #[va, vg] 108).alloc #[vs, .int .i64 seen, .int .i64 ov, .bool dn] 110)
  simp only [World.size_alloc] at hst
  have HCL := Lib.hid (clone_any (l := st) (v := vs) _ (Enc.toSl (Enc.mono _ hs (fun _ h => h) (fun b hb => hst.bel.block b (hF b hb)))) (by omega))
  have HRD := Lib.hid (fun (W : World) (hW : Below w.heap.size w W) (s : List Int) (v : Value) (p : Nat) h1 h2 h3 h4 => bdRed_any t n vp va vg v l acts gts s p W (fun _ => True) (Enc.mono _ h (fun _ _ => trivial) (fun b hb => hW.block b (hF b hb))) (Enc.mono _ hg (fun _ _ => trivial) (fun b hb => hW.block b (hF b hb))) h1 he h2 h3 h4)
  have HRT := Lib.hid (fun (s : List Int) h1 h2 => Bd.act_right he (st := s) h1 h2 hc)
  have HRS := Lib.hid (fun (s : List Int) (p : Nat) (s2 : List Int) h1 h2 h3 => Bd.red_some he (st := s) (s2 := s2) (p := p) h1 h2 h3)
  have hzz := Bd.tb_zero he
  have hm200 := hzz.2.1
  have hl40 := (Gr.err_zero hzz.1).2.2.2.2.1
  have ht30 := (Gr.err_zero hzz.1).2.1
  obtain ⟨aoa, ba, oa, ca, rfl, -, a3, a4⟩ := slSl ha
  have A3 := Lib.hid a3; have A4 := Lib.hid a4
  generalize hX : Bd.go l acts gts seen c 2000 st [] = X
  have HX := Lib.hid hX
  have HANY := Lib.hid hany
  clear h ha hg hs he hF hzz a3 a4 hX hany
  go_enter Try.func123, Try.ntmps123
  go_wp2_with (fail)
  go_at_call 82
  refine HCL.out.mono ?_
  rintro e w1 ⟨v', rfl, ho, hb1⟩
  replace hst := (hst.pushOwn hb1 ho).nilOwn 81 2
  clear ho hb1
  go_wp2
  go_loopw [11, 12, 13] (fun a b i wr => Bd.RunRel l acts gts seen c X w [aCel (w.heap.size + 1 + 1) 110 #[vs, .int .i64 seen, .int .i64 ov, .bool dn], aCel (w.heap.size + 1) 108 #[.slice aoa acts.length ca, vg], aCel w.heap.size 68 #[.int .i64 t, .int .i64 n, vp]] a b i wr) (fun _ _ i _ => 2001 - (intOf i).toNat)
  case atStart => exact ⟨0, st, [], by omega, rfl, hp, h60, by simp, hst.get2, HANY, HX⟩
  case round =>
    clear hst HX HANY hp h60 HCL st
    obtain ⟨q, st, out, hn, rfl, hp, h60, hol, hst, HANY, HX⟩ := hrel
    obtain ⟨g0, g1, g2⟩ := hst.at3 4 rfl
    obtain ⟨y0, y1⟩ := hst.at2 3 rfl
    obtain ⟨s0, s1, s2, s3⟩ := hst.at4 2 rfl
    obtain ⟨r0, r1, r2, r3⟩ := HRT.out st hp HANY.out
    have hxx : Bd.act acts st c = (acts.getD (st.getD (st.length - 1) 0).toNat []).getD c (0, 0) := by unfold Bd.act; rfl
    obtain ⟨kk, hkk⟩ : ∃ kk : Nat, kk = st.length - 1 := ⟨_, rfl⟩
    have hkl : kk < st.length := by omega
    have hsub : (st.length : Int) - 1 = (kk : Int) := by omega
    have hw1 : IntKind.i64.wrap (kk : Int) = (kk : Int) := IntWalk.i64_in _ (by omega)
    rw [← hkk] at r0 r1 r2 hxx
    rcases hst.own.shape with ⟨rfl, he⟩ | ⟨ga, capa, rfl, hga1, hga2⟩
    · rw [List.map_eq_nil_iff] at he; rw [he] at hp; simp at hp
    rw [List.length_map] at hst ⊢
    have z1 := (hst.cellOwn (f := Value.int .i64) (fun _ => rfl) kk hkl 0).1
    obtain ⟨x, hx⟩ : ∃ x : Nat, st.getD kk 0 = x := Int.eq_ofNat_of_zero_le r0
    rw [hx] at r1 r2 hxx z1
    rw [Int.toNat_natCast] at r2 hxx
    have hxl : x < acts.length := by omega
    obtain ⟨rfl, hba, -⟩ := A3.out (by omega)
    obtain ⟨ai, ci, z2, z3⟩ := A4.out x hxl
    obtain ⟨_, br, orr, _, hv, -, z4, z5⟩ := slTwo z3
    simp only [Value.slice.injEq, true_and] at hv
    obtain ⟨rfl, rfl⟩ := hv
    have hcl : c < (acts.getD x []).length := by omega
    obtain ⟨rfl, hbr, -⟩ := z4 (by omega)
    obtain ⟨z6, z7, z8, z9⟩ := z5 c hcl
    rw [← hxx] at z6 z7 z8 z9
    generalize (acts.getD x []).length = ln at *
    generalize hA : Bd.act acts st c = y at *
    obtain ⟨y1', y2'⟩ := y
    simp only at z6 z7 z8 z9
    have z2 := bkeep hst.bel z2
    have z6 := bkeep hst.bel z6
    have z7 := bkeep hst.bel z7
    have HA := Lib.hid hA
    have HR3 := Lib.hid (Tb.right_iff.1 r3)
    have hcln : (c : Int) < ln := by omega
    have hxl2 : (x : Int) < acts.length := r1
    have HSUB := Lib.hid hkk
    clear hA r0 r2 r3 hx hxx z3 z4 z5 hkk
    have l1 := World.block_lt_of_cell? _ _ y0
    have l2 := World.block_lt_of_cell? _ _ z2
    have l3 := World.block_lt_of_cell? _ _ z6
    have l4 := World.block_lt_of_cell? _ _ g0
    have l5 := World.block_lt_of_cell? _ _ s0
    go_wp2
    go_region
    clear g0 g1 g2 y0 y1 s0 s1 s2 s3 z1 z2 z6 z7 l1 l2 l3 l4 l5 hga1 hga2 hxl hxl2 hba hbr hcl hcln hw1 hsub hkl
    have hst2 := (hst.alloc #[.int .i64 y1', .int .i64 y2'] 248).drew
    clear hst
    generalize hWW : (wr.alloc (.cells #[.int .i64 y1', .int .i64 y2'] 248)).drew = W at hst2 ⊢
    generalize wr.heap.size = D at hst2 ⊢
    clear hWW wr
    obtain ⟨d0, d1⟩ := hst2.at2 0 rfl
    obtain ⟨g0, g1, g2⟩ := hst2.at3 5 rfl
    obtain ⟨y0, y1⟩ := hst2.at2 4 rfl
    obtain ⟨s0, s1, s2, s3⟩ := hst2.at4 3 rfl
    by_cases e0 : y1' = 0
    · have HE := Lib.hid (Bd.go_none (ps := l) (gts := gts) (seen := seen) (k := 2000 - q) (out := out) HA.out e0)
      rw [HX.out] at HE
      subst e0
      by_cases hq : q = 2000
      · have hqb : ((q : Int) == 2000) = true := by rw [beq_iff_eq]; omega
        clear hq
        go_wp2
        go_ret3
        exact ⟨_, _, by rw [HE.out]; rfl, by rw [HE.out]; exact ((St.ofBel hst2.bel).nilOwn _ _).nilOwn _ _⟩
      · have hqb : ((q : Int) == 2000) = false := by rw [beq_eq_false_iff_ne]; omega
        clear hq
        go_wp2
        go_ret3
        exact ⟨_, _, by rw [HE.out]; rfl, by rw [HE.out]; exact ((St.ofBel hst2.bel).nilOwn _ _).nilOwn _ _⟩
    have e0b : (y1' != 0) = true := by rw [bne_iff_ne]; exact e0
    by_cases hq : q = 2000
    · have HE := Lib.hid (Bd.go_end (ps := l) (gts := gts) (seen := seen) (out := out) HA.out e0)
      have hx := HX.out
      rw [hq, Nat.sub_self, HE.out] at hx
      have HXE := Lib.hid hx
      have hqb : ((q : Int) == 2000) = true := by rw [beq_iff_eq]; omega
      clear hq hx HE e0
      go_wp2
      go_ret3
      exact ⟨_, _, by rw [← HXE.out]; rfl, by rw [← HXE.out]; exact ((St.ofBel hst2.bel).nilOwn _ _).nilOwn _ _⟩
    have hqb : ((q : Int) == 2000) = false := by rw [beq_eq_false_iff_ne]; omega
    obtain ⟨k, hk⟩ : ∃ k, 2000 - q = k + 1 := ⟨2000 - q - 1, by omega⟩
    have hx := HX.out
    rw [hk] at hx
    have HX1 := Lib.hid hx
    have hqk : q + 1 ≤ 2000 := by omega
    clear hx HX
    rcases HR3.out with ⟨h0, _⟩ | ⟨h0, hc1, hc2, hc3⟩ | ⟨h0, hc1, hc2⟩ | ⟨h0, hc1, hc2⟩
    · exact absurd h0 e0
    · try simp only at h0 hc2 hc3
      subst h0
      clear hk hq e0 e0b
      have hstD := hst2.get2.drew
      have HX2 : Hid ((60 ≤ st.length → X = (14, [], [])) ∧ (st.length < 60 → X = (0, st ++ [y2'], out ++ [(2, seen)]))) := Lib.hid ⟨fun g => by rw [← HX1.out]; exact Bd.go_shiftDeep HA.out rfl g, fun g => by rw [← HX1.out]; exact Bd.go_shift HA.out rfl g⟩
      obtain ⟨bv, bn, bc, rfl⟩ : ∃ x n c, u12 = .slice x n c := by obtain ⟨x, c, h⟩ := (hst2.ownAt 2 rfl).isLen; exact ⟨_, _, _, h⟩
      have lD := World.block_lt_of_cell? _ _ d0
      have lS := World.block_lt_of_cell? _ _ s0
      clear HX1 hst2
      go_wp2
      go_region_held3 (fun w' => w'.cell? ⟨D, 1, none⟩ = some (.int .i64 y2') ∧ w'.cell? ⟨w.heap.size + 1 + 1, 1, none⟩ = some (.int .i64 seen)) (first | exact ⟨d1, s1⟩ | go_keep) (first
        | (refine St.step1n intE (by rfl) (.tmp 49) (.tmp 52) (by rfl) (by rfl) hstD (.int .i64 y2') rfl _ 1 rfl (by simp) rfl (int_one2 _) (by rw [List.length_map]; unfold maxLen; omega) (by rw [List.length_map]; omega) ?_; intro g5 n5 c5 w5 hst5; obtain rfl : n5 = st.length + 1 := (by have := hst5.own.len; simpa using this); obtain ⟨d0, d1⟩ := hst5.at2 1 rfl; obtain ⟨s0, s1, s2, s3⟩ := hst5.at4 3 rfl)
        | (refine St.step1n intE (by rfl) (.tmp 49) (.tmp 52) (by rfl) (by rfl) (hstD.alloc #[.int .i64 2, .int .i64 seen] 81).get2 (.int .i64 y2') rfl _ 1 rfl (by simp) rfl (int_one2 _) (by rw [List.length_map]; unfold maxLen; omega) (by rw [List.length_map]; omega) ?_; intro g5 n5 c5 w5 hst5; obtain rfl : n5 = st.length + 1 := (by have := hst5.own.len; simpa using this); obtain ⟨d0, d1⟩ := hst5.at2 2 rfl; obtain ⟨s0, s1, s2, s3⟩ := hst5.at4 4 rfl)
        | (refine St.stepU intE (by rfl) (.tmp 49) (.tmp 52) (by rfl) (by rfl) ((hstD.skip _).alloc #[.int .i64 2, .int .i64 seen] 81).get2 (.int .i64 y2') _ 1 rfl (fun j q hq => (World.cell?_alloc_lt _ _ _ (by simp)).trans (cells_lit _ _ j q hq)) rfl (int_one2 _) (by rw [List.length_map]; unfold maxLen; omega) (by rw [List.length_map]; omega) ?_; intro g5 n5 c5 w5 hst5; obtain rfl : n5 = st.length + 1 := (by have := hst5.own.len; simpa using this); simp only [World.size_alloc] at hst5; obtain ⟨d0, d1⟩ := hst5.at2 2 rfl; obtain ⟨s0, s1, s2, s3⟩ := hst5.at4 4 rfl)
        | (refine St.step1n evtE2 (by rfl) (.tmp 54) (.tmp 58) (by rfl) (by rfl) hst5.get3 (pairV (2, seen)) rfl _ 1 rfl (by simp) rfl (pair_one2 _) (by rw [List.length_map]; unfold maxLen; omega) (by rw [List.length_map]; omega) ?_; intro g6 n6 c6 w6 hst6; have hst7 := hst6.get2.two; obtain ⟨d0, d1⟩ := hst6.at2 2 rfl; obtain ⟨s0, s1, s2, s3⟩ := hst6.at4 3 rfl)
        | (refine St.stepU evtE2 (by rfl) (.tmp 54) (.tmp 58) (by rfl) (by rfl) hst5.get4 (pairV (2, seen)) _ 1 rfl (hst5.celsAt (u := pairV (2, seen)) 1 rfl) rfl (pair_one2 _) (by rw [List.length_map]; unfold maxLen; omega) (by rw [List.length_map]; omega) ?_; intro g6 n6 c6 w6 hst6; have hst7 := hst6.get2.two; obtain ⟨d0, d1⟩ := hst6.at2 3 rfl; obtain ⟨s0, s1, s2, s3⟩ := hst6.at4 4 rfl))
      all_goals
        clear hst5 hst6
        by_cases h60' : 60 ≤ st.length
        · have HXE := Lib.hid (HX2.out.1 h60')
          go_wp2
          go_ret3
          exact ⟨_, _, by rw [HXE.out]; rfl, by rw [HXE.out]; exact ((St.ofBel hst7.bel).nilOwn _ _).nilOwn _ _⟩
        · have h60'' : st.length < 60 := by omega
          have HXE := Lib.hid (HX2.out.2 h60'')
          clear h60'
          go_wp2
          go_ret3
          exact ⟨_, _, by rw [HXE.out]; rfl, by rw [HXE.out]; simp only [List.map_append]; exact hst7⟩
    · try simp only at h0 hc1 hc2
      subst h0
      obtain ⟨p, rfl⟩ := Int.eq_ofNat_of_zero_le hc1
      have hpl : p < l.length := by omega
      have HKK := Lib.hid hk
      clear hk hq e0 e0b
      have HENC := Lib.hid (Own.enc (En := Enc.int .i64) (bytes := 8) (F := fun _ => True) (f := Value.int .i64) (hst2.ownAt 1 rfl) rfl (fun a ha => ⟨rfl, WalkArith.wf_i64 (by
        obtain ⟨i, hi, rfl⟩ := List.getElem_of_mem ha
        have := Bd.any_out HANY.out i hi
        simp only [List.getD, List.getElem?_eq_getElem hi, Option.getD_some] at this
        omega)⟩) (fun _ _ => trivial) (by omega))
      have hcon := HRD.out W hst2.bel st _ p HENC.out hpl HANY.out h60
      cases hred : Bd.red gts st (l.getD p (0, []))
      · have HXE := Lib.hid (Bd.go_redNo (ps := l) (gts := gts) (seen := seen) (k := k) (out := out) HA.out rfl hred)
        rw [HX1.out] at HXE
        rw [hred] at hcon
        have HC := Lib.hid hcon
        clear hcon hred HX1
        go_wp2_with (fail)
        go_at_call 154
        refine HC.out.mono ?_
        rintro e w5 ⟨⟨v, rfl⟩, hb5⟩
        replace hst2 := hst2.call hb5
        clear hb5 d0 d1 g0 g1 g2 y0 y1 s0 s1 s2 s3
        go_wp2
        go_ret3
        exact ⟨_, _, by rw [HXE.out]; rfl, by rw [HXE.out]; exact ((St.ofBel hst2.bel).nilOwn _ _).nilOwn _ _⟩
      · rename_i sv
        have hs2 := HRS.out st p sv hpl HANY.out hred
        rw [hred] at hcon
        have HC := Lib.hid hcon
        have HX2 : Hid ((60 < sv.length → X = (14, [], [])) ∧ (¬ 60 < sv.length → Bd.go l acts gts seen c k sv (out ++ [(4, (p : Int))]) = X)) := Lib.hid ⟨fun g => by rw [← HX1.out]; exact Bd.go_redDeep HA.out rfl hred g, fun g => by rw [← HX1.out]; exact (Bd.go_red HA.out rfl hred g).symm⟩
        have HS2 := Lib.hid hs2
        clear hcon hred HX1 hs2
        go_wp2_with (fail)
        go_at_call 154
        refine HC.out.mono ?_
        rintro e w5 ⟨⟨v, rfl, ho⟩, hb5⟩
        have hst3 := hst2.pushOwn hb5 ho
        obtain ⟨av, cv, rfl⟩ := ho.isLen
        rw [List.length_map] at hst3 ⊢
        clear ho hb5 hst2 d0 d1 g0 g1 g2 y0 y1 s0 s1 s2 s3 HENC
        obtain ⟨d0, d1⟩ := hst3.at2 1 rfl
        have hst4 := hst3.get4
        have lD := World.block_lt_of_cell? _ _ d0
        have hol2 : (out ++ [(4, (p : Int))]).length ≤ q + 1 := by rw [List.length_append, List.length_singleton]; omega
        by_cases h60' : 60 < sv.length
        · have HXE := Lib.hid (HX2.out.1 h60')
          have h60i : (60 : Int) < (sv.length : Int) := by omega
          go_wp2_with (at_builtin; refine St.app1n evtE2 rfl (.tmp 73) (.tmp 77) rfl rfl hst4 (pairV (4, (p : Int))) rfl _ 1 rfl (by simp) rfl (pair_one2 _) (by rw [List.length_map]; unfold maxLen; omega) (by rw [List.length_map]; omega) ?_; intro g6 n6 c6 w6 hst6; obtain ⟨d0, d1⟩ := hst6.at2 2 rfl)
          go_ret3
          exact ⟨_, _, by rw [HXE.out]; rfl, by rw [HXE.out]; exact ((St.ofBel hst6.bel).nilOwn _ _).nilOwn _ _⟩
        · have HXE := Lib.hid (HX2.out.2 h60')
          have h60i : (sv.length : Int) ≤ 60 := by omega
          have h60n : sv.length ≤ 60 := by omega
          clear h60'
          go_wp2_with (at_builtin; refine St.app1n evtE2 rfl (.tmp 73) (.tmp 77) rfl rfl hst4 (pairV (4, (p : Int))) rfl _ 1 rfl (by simp) rfl (pair_one2 _) (by rw [List.length_map]; unfold maxLen; omega) (by rw [List.length_map]; omega) ?_; intro g6 n6 c6 w6 hst6; obtain ⟨d0, d1⟩ := hst6.at2 2 rfl)
          have hst7 := hst6.get2.get3.drop.get3.drop
          have hrel : Bd.RunRel l acts gts seen c X w [aCel (w.heap.size + 1 + 1) 110 #[vs, .int .i64 seen, .int .i64 ov, .bool dn], aCel (w.heap.size + 1) 108 #[.slice (some ⟨ba, oa, none⟩) acts.length ca, vg], aCel w.heap.size 68 #[.int .i64 t, .int .i64 n, vp]] (.slice av sv.length cv) (.slice (some ⟨g6, 0, none⟩) n6 c6) (.int .i64 ((q : Int) + 1)) w6 :=
            ⟨q + 1, sv, out ++ [(4, (p : Int))], hqk, by go_num, HS2.out.1, by omega, hol2, by rw [List.map_append]; exact hst7, Lib.hid HS2.out.2, Lib.hid (by rw [show 2000 - (q + 1) = k by have := HKK.out; omega]; exact HXE.out)⟩
          go_roundw
          case rel => exact hrel
          case measure => simp [intOf]; omega
    · try simp only at h0 hc1
      subst h0 hc1
      have hx := HX1.out
      rw [Bd.go_acc (ps := l) (gts := gts) (seen := seen) (k := k) (out := out) HA.out rfl] at hx
      have HXE := Lib.hid hx
      clear hk hq e0 e0b hc2 hx
      go_wp2
      go_ret3
      exact ⟨_, _, by rw [← HXE.out]; rfl, by rw [← HXE.out]; exact hst2.drop.two⟩
end Go.Proofs.Ytldapomcjfkeeaa
