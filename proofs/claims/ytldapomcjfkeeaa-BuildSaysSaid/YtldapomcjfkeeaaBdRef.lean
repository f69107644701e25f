/-
  Build of the reference: what it computes.
-/
import Derived.Test.YtldapomcjfkeeaaBdRun
import Derived.Test.YtldapomcjfkeeaaBdSame
namespace Go.Proofs.Ytldapomcjfkeeaa
set_option linter.unusedVariables false
open Go.ChangeShapes Go.WideShapes Go.ChangeAt Go.RowKit

set_option maxRecDepth 100000 in
theorem bdOver_any (T : Nat) (seen E : Int) (w : World) (hT : w.cell? ⟨T, 1, none⟩ = some (.int .i64 seen)) :
    Calls Try.prog 155 #[.int .i64 E, .pointer (some ⟨T, 0, none⟩)] w fun e w' => e = .returned (.tuple #[.agg #[.slice none 0 0, .int .i64 seen, .int .i64 E, .bool false], .slice none 0 0, .int .i64 E]) ∧ Below w.heap.size w w' := by
  have hst := (St.init w).alloc #[.slice none 0 0, .int .i64 seen, .int .i64 E, .bool false] 110
  have hlt := World.block_lt_of_cell? _ _ hT
  obtain ⟨k0, k1, k2, k3⟩ := hst.at4 0 rfl
  have HB := Lib.hid hst.bel
  clear hst
  go_enter Try.func155, Try.ntmps155
  go_wp2
  refine bodyPost_ret (v := .tuple #[.agg #[.slice none 0 0, .int .i64 seen, .int .i64 E, .bool false], .slice none 0 0, .int .i64 E]) ?_ rfl ?_
  · simp [results, Try.results155, go_sem, k0, k1, k2, k3]
  · exact ⟨rfl, HB.out⟩

theorem alloc_keep {w : World} {a : Addr} {v : Value} (o : Obj) (h : w.cell? a = some v) : (w.alloc o).cell? a = some v := (World.cell?_alloc_lt _ _ _ (World.block_lt_of_cell? w a h)).trans h
theorem set4_keep {w : World} {b o0 o1 o2 o3 : Nat} {u0 u1 u2 u3 : Value} {a : Addr} {v : Value} (hne : b ≠ a.block) (h : w.cell? a = some v) : ((((w.setCell ⟨b, o0, none⟩ u0).setCell ⟨b, o1, none⟩ u1).setCell ⟨b, o2, none⟩ u2).setCell ⟨b, o3, none⟩ u3).cell? a = some v := by
  rw [World.cell?_setCell_far _ _ _ _ hne, World.cell?_setCell_far _ _ _ _ hne, World.cell?_setCell_far _ _ _ _ hne, World.cell?_setCell_far _ _ _ _ hne]
  exact h

def Bd.RefRel (l : List (Int × List (Int × Int))) (acts : List (List (Int × Int))) (gts : List (List Int)) (seen : Int) (c : Nat) (X : Int × List Int × List (Int × Int)) (w : World) (μ : List Asrt) (a b i : Value) (wr : World) : Prop :=
  ∃ (n : Nat) (st : List Int) (out : List (Int × Int)), n ≤ 2000 ∧ i = .int .i64 (n + 1 : Nat) ∧ 0 < st.length ∧ st.length ≤ 60 ∧ out.length ≤ n ∧ St w wr (aOwn 3 1 a (st.map (Value.int .i64)) :: aOwn 81 2 b (out.map pairV) :: μ) ∧
    Hid (st.any (Bd.out acts.length) = false) ∧ Hid (Bd.go l acts gts seen c (2000 - n) st out = X)

set_option maxRecDepth 100000 in
set_option maxHeartbeats 32000000 in
theorem bdRef_any (t n seen ov : Int) (dn : Bool) (vp va vg vs : Value) (l : List (Int × List (Int × Int))) (acts : List (List (Int × Int))) (gts : List (List Int)) (st : List Int) (c : Nat) (w : World) (F : Nat → Prop) (hF : ∀ b, F b → b < w.heap.size) (h : Enc.prods.R F w [vp] l)
    (ha : ((Enc.two.sl 16).sl 24).R F w [va] acts) (hg : (((Enc.int .i64).sl 8).sl 24).R F w [vg] gts) (hs : ((Enc.int .i64).sl 8).R F w [vs] st) (he : Tb.all t n l acts gts = 0) (hc : (c : Int) ≤ t) (hsn : 0 ≤ seen ∧ seen ≤ 1099511627776)
    (hp : 0 < st.length) (h60 : st.length ≤ 60) (hany : st.any (Bd.out acts.length) = false) :
    Calls Try.prog 124 #[.agg #[.int .i64 t, .int .i64 n, vp], .agg #[va, vg], .agg #[vs, .int .i64 seen, .int .i64 ov, .bool dn], .int .i64 c] w (Bd.Ret (Bd.fin (decide ((c : Int) = t)) (Bd.go l acts gts seen c 2000 st []) seen) w) := by
  have HRT := Lib.hid (fun (s : List Int) h1 h2 => Bd.act_right he (st := s) h1 h2 hc)
  have HRS := Lib.hid (fun (s : List Int) (p : Nat) (s2 : List Int) h1 h2 h3 => Bd.red_some he (st := s) (s2 := s2) (p := p) h1 h2 h3)
  have HDI := Lib.hid (fun (p : Nat) hp x hx => Bd.dest_in he (p := p) hp (x := x) hx)
  have hzz := Bd.tb_zero he
  have HG8 := Lib.hid (fun (p : Nat) (hp : p < l.length) => ((Gr.err_zero hzz.1).2.2.2.2.2 (l.getD p (0, [])) (by simp [List.getD, hp])).1)
  have hm200 := hzz.2.1
  have HGA := Lib.hid hzz.2.2.2.1
  have hl40 := (Gr.err_zero hzz.1).2.2.2.2.1
  have ht30 := (Gr.err_zero hzz.1).2.1
  obtain ⟨aoa, ba, oa, ca, rfl, -, a3, a4⟩ := slSl ha
  have A3 := Lib.hid a3; have A4 := Lib.hid a4
  obtain ⟨aop, bp, op, cp, rfl, -, p3, p4⟩ := slProds h
  have P3 := Lib.hid p3; have P4 := Lib.hid p4
  obtain ⟨aog, bg, og, cg, rfl, -, g3, g4⟩ := slSl hg
  have G3 := Lib.hid g3; have G4 := Lib.hid g4
  have HSE := Lib.hid (fun (W : World) (hW : Below w.heap.size w W) => Enc.mono _ hs (fun _ h => h) (fun b hb => hW.block b (hF b hb)))
  have hst := (((((St.init w).alloc #[.int .i64 t, .int .i64 n, .slice aop l.length cp] 68).alloc #[.slice aoa acts.length ca, .slice aog gts.length cg] 108).alloc #[vs, .int .i64 seen, .int .i64 ov, .bool dn] 110).alloc #[.slice none 0 0, .int .i64 0, .int .i64 0, .bool false] 110).nilOwn 3 1
  simp only [World.size_alloc] at hst
  generalize hX : Bd.go l acts gts seen c 2000 st [] = X
  have HX := Lib.hid hX
  have HANY := Lib.hid hany
  clear h ha hg hs he hF hzz a3 a4 p3 p4 g3 g4 hX hany
  go_enter Try.func124, Try.ntmps124
  go_wp2_with (at_builtin; refine St.appSl intE rfl (.const (.slice none 0 0)) (.tmp 20) rfl rfl hst rfl (HSE.out _ hst.bel) rfl (Value.int .i64) (fun w cs a h => h.1) (fun a q hq => int_one2 a q hq) (by simp only [List.length_nil]; omega) (by simp only [List.length_nil]; omega) ?_; intro v' w1 hst1)
  rw [List.nil_append] at hst1
  have hst := hst1.nilOwn 81 2
  clear hst1
  go_loopw [12, 13, 14] (fun a b i wr => Bd.RefRel l acts gts seen c X w [aCel (w.heap.size + 1 + 1 + 1) 110 #[.slice none 0 0, .int .i64 0, .int .i64 0, .bool false], aCel (w.heap.size + 1 + 1) 110 #[vs, .int .i64 seen, .int .i64 ov, .bool dn], aCel (w.heap.size + 1) 108 #[.slice aoa acts.length ca, .slice aog gts.length cg], aCel w.heap.size 68 #[.int .i64 t, .int .i64 n, .slice aop l.length cp]] a b i wr) (fun _ _ i _ => 2002 - (intOf i).toNat)
  case atStart => exact ⟨0, st, [], by omega, rfl, hp, h60, by simp, hst.get2, HANY, HX⟩
  case round =>
    clear hst HX HANY hp h60 HSE st
    obtain ⟨q, st, out, hn, rfl, hp, h60, hol, hst, HANY, HX⟩ := hrel
    obtain ⟨g0, g1, g2⟩ := hst.at3 5 rfl
    obtain ⟨y0, y1⟩ := hst.at2 4 rfl
    obtain ⟨s0, s1, s2, s3⟩ := hst.at4 3 rfl
    obtain ⟨z0', z1', z2', z3'⟩ := hst.at4 2 rfl
    obtain ⟨r0, r1, r2, r3⟩ := HRT.out st hp HANY.out
    have hxx : Bd.act acts st c = (acts.getD (st.getD (st.length - 1) 0).toNat []).getD c (0, 0) := by unfold Bd.act; rfl
    obtain ⟨kk, hkk⟩ : ∃ kk : Nat, kk = st.length - 1 := ⟨_, rfl⟩
    have hkl : kk < st.length := by omega
    have hsub : (st.length : Int) - 1 = (kk : Int) := by omega
    have hw1 : IntKind.i64.wrap (kk : Int) = (kk : Int) := IntWalk.i64_in _ (by omega)
    rw [← hkk] at r0 r1 r2 hxx
    rcases hst.own.shape with ⟨rfl, he⟩ | ⟨ga, capa, rfl, hga1, hga2⟩
    · rw [List.map_eq_nil_iff] at he; rw [he] at hp; simp at hp
    rw [List.length_map] at hst ⊢
    have z1 := (hst.cellOwn (f := Value.int .i64) (fun _ => rfl) kk hkl 0).1
    obtain ⟨x, hx⟩ : ∃ x : Nat, st.getD kk 0 = x := Int.eq_ofNat_of_zero_le r0
    rw [hx] at r1 r2 hxx z1
    rw [Int.toNat_natCast] at r2 hxx
    have hxl : x < acts.length := by omega
    obtain ⟨rfl, hba, -⟩ := A3.out (by omega)
    obtain ⟨ai, ci, z2, z3⟩ := A4.out x hxl
    obtain ⟨_, br, orr, _, hv, -, z4, z5⟩ := slTwo z3
    simp only [Value.slice.injEq, true_and] at hv
    obtain ⟨rfl, rfl⟩ := hv
    have hcl : c < (acts.getD x []).length := by omega
    obtain ⟨rfl, hbr, -⟩ := z4 (by omega)
    obtain ⟨z6, z7, z8, z9⟩ := z5 c hcl
    rw [← hxx] at z6 z7 z8 z9
    generalize (acts.getD x []).length = ln at *
    generalize hA : Bd.act acts st c = y at *
    obtain ⟨y1', y2'⟩ := y
    simp only at z6 z7 z8 z9
    have z2 := bkeep hst.bel z2
    have z6 := bkeep hst.bel z6
    have z7 := bkeep hst.bel z7
    have HA := Lib.hid hA
    have HR3 := Lib.hid (Tb.right_iff.1 r3)
    have hcln : (c : Int) < ln := by omega
    have hxl2 : (x : Int) < acts.length := r1
    have HSUB := Lib.hid hkk
    clear hA r0 r2 r3 hx hxx z3 z4 z5 hkk
    have l1 := World.block_lt_of_cell? _ _ y0
    have l2 := World.block_lt_of_cell? _ _ z2
    have l3 := World.block_lt_of_cell? _ _ z6
    have l4 := World.block_lt_of_cell? _ _ g0
    have l5 := World.block_lt_of_cell? _ _ s0
    have l6 := World.block_lt_of_cell? _ _ z0'
    simp only at l6
    go_wp2
    go_region
    clear g0 g1 g2 y0 y1 s0 s1 s2 s3 z1 z2 z6 z7 l1 l2 l3 l4 l5 hga1 hga2 hxl hxl2 hba hbr hcl hcln hw1 hsub hkl z0' z1' z2' z3'
    have hst2 := (hst.alloc #[.int .i64 y1', .int .i64 y2'] 248).drew
    clear hst
    generalize hWW : (wr.alloc (.cells #[.int .i64 y1', .int .i64 y2'] 248)).drew = W at hst2 ⊢
    generalize wr.heap.size = D at hst2 l6 ⊢
    clear hWW wr
    obtain ⟨d0, d1⟩ := hst2.at2 0 rfl
    obtain ⟨g0, g1, g2⟩ := hst2.at3 6 rfl
    obtain ⟨y0, y1⟩ := hst2.at2 5 rfl
    obtain ⟨s0, s1, s2, s3⟩ := hst2.at4 4 rfl
    by_cases e0 : y1' = 0
    · have HE := Lib.hid (Bd.go_none (ps := l) (gts := gts) (seen := seen) (k := 2000 - q) (out := out) HA.out e0)
      rw [HX.out] at HE
      have HXE : Hid ((13, [], []) = X) := Lib.hid HE.out.symm
      subst e0
      clear HE
      go_wp2_with (fail)
      go_at_call 155
      refine (bdOver_any (w.heap.size + 1 + 1) seen 13 _ s1).mono ?_
      rintro e w5 ⟨rfl, hb5⟩
      replace hst2 := hst2.call hb5
      clear hb5
      obtain ⟨z0, z1, z2, z3, zf0, zf1, zf2, zf3⟩ := (hst2.nth 3 rfl).cel4
      have hstA := ((((hst2.nth 3 rfl).setCel 0 (.slice none 0 0)).setCel 1 (.int .i64 seen)).setCel 2 (.int .i64 13)).setCel 3 (.bool false)
      have HA := Lib.hid hstA
      clear hstA hst2
      go_wp2
      obtain ⟨k0, k1, k2, k3⟩ := HA.out.at4 0 rfl
      refine bodyPost_ret (v := .tuple #[.agg #[.slice none 0 0, .int .i64 seen, .int .i64 13, .bool false], .slice none 0 0, .int .i64 13]) ?_ rfl ?_
      · simp [results, Try.results124, go_sem, k0, k1, k2, k3]
      · rw [← HXE.out, Bd.fin_bad (by decide)]
        exact ⟨_, _, rfl, ((St.ofBel HA.out.bel).nilOwn _ _).nilOwn _ _⟩
    have e0b : (y1' == 0) = false := by rw [beq_eq_false_iff_ne]; exact e0
    by_cases hq : q = 2000
    · have HE := Lib.hid (Bd.go_end (ps := l) (gts := gts) (seen := seen) (out := out) HA.out e0)
      have hx := HX.out
      rw [hq, Nat.sub_self, HE.out] at hx
      have HXE := Lib.hid hx
      have hqb : (2000 : Int) < ((q + 1 : Nat) : Int) := by omega
      have hqb2 : (2000 : Int) < (q : Int) + 1 := by omega
      have hqb3 : 2000 < q + 1 := by omega
      clear hq hx HE e0
      go_wp2_with (fail)
      go_at_call 155
      refine (bdOver_any (w.heap.size + 1 + 1) seen 14 _ s1).mono ?_
      rintro e w5 ⟨rfl, hb5⟩
      replace hst2 := hst2.call hb5
      clear hb5
      obtain ⟨z0, z1, z2, z3, zf0, zf1, zf2, zf3⟩ := (hst2.nth 3 rfl).cel4
      have hstA := ((((hst2.nth 3 rfl).setCel 0 (.slice none 0 0)).setCel 1 (.int .i64 seen)).setCel 2 (.int .i64 14)).setCel 3 (.bool false)
      have HA := Lib.hid hstA
      clear hstA hst2
      go_wp2
      obtain ⟨k0, k1, k2, k3⟩ := HA.out.at4 0 rfl
      refine bodyPost_ret (v := .tuple #[.agg #[.slice none 0 0, .int .i64 seen, .int .i64 14, .bool false], .slice none 0 0, .int .i64 14]) ?_ rfl ?_
      · simp [results, Try.results124, go_sem, k0, k1, k2, k3]
      · rw [← HXE.out, Bd.fin_bad (by decide)]
        exact ⟨_, _, rfl, ((St.ofBel HA.out.bel).nilOwn _ _).nilOwn _ _⟩
    have hqb : (q : Int) + 1 ≤ 2000 := by omega
    have hqb2 : q + 1 ≤ 2000 := by omega
    obtain ⟨k, hk⟩ : ∃ k, 2000 - q = k + 1 := ⟨2000 - q - 1, by omega⟩
    have hx := HX.out
    rw [hk] at hx
    have HX1 := Lib.hid hx
    clear hx HX
    rcases HR3.out with ⟨h0, _⟩ | ⟨h0, hc1, hc2, hc3⟩ | ⟨h0, hc1, hc2⟩ | ⟨h0, hc1, hc2⟩
    · exact absurd h0 e0
    · try simp only at h0 hc1 hc2 hc3
      subst h0
      have HDC : Hid (decide ((c : Int) = t) = false) := Lib.hid (decide_eq_false (by omega))
      clear hk hq e0 e0b
      by_cases h60' : 60 ≤ st.length
      · have h60b : ((st.length : Int) == 60) = true := by rw [beq_iff_eq]; omega
        have hx := HX1.out
        rw [Bd.go_shiftDeep (ps := l) (gts := gts) (seen := seen) (k := k) (out := out) HA.out rfl h60'] at hx
        have HXE := Lib.hid hx
        clear hx h60'
        go_wp2_with (fail)
        go_at_call 155
        refine (bdOver_any (w.heap.size + 1 + 1) seen 14 _ s1).mono ?_
        rintro e w5 ⟨rfl, hb5⟩
        replace hst2 := hst2.call hb5
        clear hb5
        obtain ⟨z0, z1, z2, z3, zf0, zf1, zf2, zf3⟩ := (hst2.nth 3 rfl).cel4
        have hstA := ((((hst2.nth 3 rfl).setCel 0 (.slice none 0 0)).setCel 1 (.int .i64 seen)).setCel 2 (.int .i64 14)).setCel 3 (.bool false)
        have HA := Lib.hid hstA
        clear hstA hst2
        go_wp2
        obtain ⟨k0, k1, k2, k3⟩ := HA.out.at4 0 rfl
        refine bodyPost_ret (v := .tuple #[.agg #[.slice none 0 0, .int .i64 seen, .int .i64 14, .bool false], .slice none 0 0, .int .i64 14]) ?_ rfl ?_
        · simp [results, Try.results124, go_sem, k0, k1, k2, k3]
        · rw [← HXE.out, Bd.fin_bad (by decide)]
          exact ⟨_, _, rfl, ((St.ofBel HA.out.bel).nilOwn _ _).nilOwn _ _⟩
      have h60b : ((st.length : Int) == 60) = false := by rw [beq_eq_false_iff_ne]; omega
      have hx := HX1.out
      rw [Bd.go_shift (ps := l) (gts := gts) (seen := seen) (k := k) (out := out) HA.out rfl (by omega)] at hx
      have HXE := Lib.hid hx
      have hstD := hst2.get2.drew
      obtain ⟨bv, bn, bc, rfl⟩ : ∃ x n c, u13 = .slice x n c := by obtain ⟨x, c, h⟩ := (hst2.ownAt 2 rfl).isLen; exact ⟨_, _, _, h⟩
      have lD := World.block_lt_of_cell? _ _ d0
      have lS := World.block_lt_of_cell? _ _ s0
      have hws : IntKind.i64.wrap (seen + 1) = seen + 1 := IntWalk.i64_in _ (by omega)
      have hne1 : w.heap.size + 1 + 1 + 1 ≠ D := by omega
      have hne2 : w.heap.size + 1 + 1 + 1 ≠ w.heap.size + 1 + 1 := by omega
      have hbel := hst2.bel
      clear HX1 hst2 hx h60' HRT HRS HDI HG8 HGA A3 A4 P3 P4 G3 G4 HANY HA HR3 HSUB g0 g1 g2 y0 y1 hm200 hl40 ht30
      go_wp2
      go_region_held3 (fun w' => w'.cell? ⟨D, 1, none⟩ = some (.int .i64 y2') ∧ w'.cell? ⟨w.heap.size + 1 + 1, 1, none⟩ = some (.int .i64 seen)) (first | with_reducible exact ⟨d1, s1⟩ | with_reducible exact ⟨alloc_keep _ d1, alloc_keep _ s1⟩ | with_reducible exact ⟨alloc_keep _ (alloc_keep _ d1), alloc_keep _ (alloc_keep _ s1)⟩ | with_reducible exact ⟨set4_keep hne1 d1, set4_keep hne2 s1⟩ | go_keep) (first
        | (refine St.step1n intE (by rfl) (.tmp 70) (.tmp 73) (by rfl) (by rfl) hstD (.int .i64 y2') rfl _ 1 rfl (by simp) rfl (int_one2 _) (by rw [List.length_map]; unfold maxLen; omega) (by rw [List.length_map]; omega) ?_; intro g5 n5 c5 w5 hst5; obtain rfl : n5 = st.length + 1 := (by have := hst5.own.len; simpa using this); obtain ⟨d0, d1⟩ := hst5.at2 1 rfl; obtain ⟨s0, s1, s2, s3⟩ := hst5.at4 4 rfl)
        | (refine St.step1n intE (by rfl) (.tmp 70) (.tmp 73) (by rfl) (by rfl) (hstD.alloc #[.int .i64 2, .int .i64 seen] 81).get2 (.int .i64 y2') rfl _ 1 rfl (by simp) rfl (int_one2 _) (by rw [List.length_map]; unfold maxLen; omega) (by rw [List.length_map]; omega) ?_; intro g5 n5 c5 w5 hst5; obtain rfl : n5 = st.length + 1 := (by have := hst5.own.len; simpa using this); obtain ⟨d0, d1⟩ := hst5.at2 2 rfl; obtain ⟨s0, s1, s2, s3⟩ := hst5.at4 5 rfl)
        | (refine St.stepU intE (by rfl) (.tmp 70) (.tmp 73) (by rfl) (by rfl) ((hstD.skip _).alloc #[.int .i64 2, .int .i64 seen] 81).get2 (.int .i64 y2') _ 1 rfl (fun j q hq => (World.cell?_alloc_lt _ _ _ (by simp)).trans (cells_lit _ _ j q hq)) rfl (int_one2 _) (by rw [List.length_map]; unfold maxLen; omega) (by rw [List.length_map]; omega) ?_; intro g5 n5 c5 w5 hst5; simp only [World.size_alloc] at hst5; obtain rfl : n5 = st.length + 1 := (by have := hst5.own.len; simpa using this); obtain ⟨d0, d1⟩ := hst5.at2 2 rfl; obtain ⟨s0, s1, s2, s3⟩ := hst5.at4 5 rfl)
        | (refine St.step1n evtE2 (by rfl) (.tmp 79) (.tmp 83) (by rfl) (by rfl) hst5.get3 (pairV (2, seen)) rfl _ 1 rfl (by simp) rfl (pair_one2 _) (by rw [List.length_map]; unfold maxLen; omega) (by rw [List.length_map]; omega) ?_; intro g6 n6 c6 w6 hst6; have hstA := ((((hst6.get4.setCel 0 (.slice (some ⟨g5, 0, none⟩) (st.length + 1) c5)).setCel 1 (.int .i64 (seen + 1))).setCel 2 (.int .i64 0)).setCel 3 (.bool false)); have HR := Lib.hid (hstA.at4 0 rfl); have hst7 := hstA.drop.get2.two; obtain ⟨d0, d1⟩ := hst6.at2 2 rfl; obtain ⟨s0, s1, s2, s3⟩ := hst6.at4 4 rfl; obtain ⟨z0, z1, z2, z3, zf0, zf1, zf2, zf3⟩ := (hst6.nth 3 rfl).cel4)
        | (refine St.stepU evtE2 (by rfl) (.tmp 79) (.tmp 83) (by rfl) (by rfl) hst5.get4 (pairV (2, seen)) _ 1 rfl (hst5.celsAt (u := pairV (2, seen)) 1 rfl) rfl (pair_one2 _) (by rw [List.length_map]; unfold maxLen; omega) (by rw [List.length_map]; omega) ?_; intro g6 n6 c6 w6 hst6; have hstA := ((((hst6.get5.setCel 0 (.slice (some ⟨g5, 0, none⟩) (st.length + 1) c5)).setCel 1 (.int .i64 (seen + 1))).setCel 2 (.int .i64 0)).setCel 3 (.bool false)); have HR := Lib.hid (hstA.at4 0 rfl); have hst7 := hstA.drop.get2.two; obtain ⟨d0, d1⟩ := hst6.at2 3 rfl; obtain ⟨s0, s1, s2, s3⟩ := hst6.at4 5 rfl; obtain ⟨z0, z1, z2, z3, zf0, zf1, zf2, zf3⟩ := (hst6.nth 4 rfl).cel4))
      all_goals
        clear hst5 hst6
        go_wp2
        obtain ⟨k0, k1, k2, k3⟩ := HR.out
        refine bodyPost_ret (v := .tuple #[.agg #[.slice (some ⟨g5, 0, none⟩) (st.length + 1) c5, .int .i64 (seen + 1), .int .i64 0, .bool false], .slice (some ⟨g6, 0, none⟩) n6 c6, .int .i64 0]) ?_ rfl ?_
        · simp [results, Try.results124, go_sem, k0, k1, k2, k3]
        · rw [← HXE.out, HDC.out, Bd.fin_go rfl]
          exact ⟨_, _, rfl, by simp only [List.map_append]; exact hst7⟩
    · try simp only at h0 hc1 hc2
      subst h0
      obtain ⟨p, rfl⟩ := Int.eq_ofNat_of_zero_le hc1
      have hpl : p < l.length := by omega
      have HKK := Lib.hid hk
      clear hk hq e0 e0b
      obtain ⟨rfl, hbp, -⟩ := P3.out (by omega)
      obtain ⟨vb, q1, q2, q3, q4⟩ := P4.out p hpl
      obtain ⟨ab, -, -, cb, rfl, -⟩ := slTwo q3
      have q1 := bkeep hst2.bel q1
      have q2 := bkeep hst2.bel q2
      have h8 := HG8.out p hpl
      have hDI := HDI.out p hpl
      have hRS := HRS.out st p
      have lq := World.block_lt_of_cell? _ _ q1
      clear q3 q4
      generalize hq : l.getD p (0, []) = PP at *
      obtain ⟨hd, body⟩ := PP
      simp only at q1 q2 h8 hDI
      have hpl2 : (p : Int) < l.length := by omega
      by_cases hb : st.length ≤ body.length
      · have hx := HX1.out
        rw [Bd.go_redNo (ps := l) (gts := gts) (seen := seen) (k := k) (out := out) HA.out rfl (by simp only [Int.toNat_natCast]; rw [hq]; exact Bd.red_short hb)] at hx
        have HXE := Lib.hid hx
        have hb2 : (st.length : Int) ≤ body.length := by omega
        have hstP := hst2.alloc #[.int .i64 hd, .slice ab body.length cb] 186
        have lS := World.block_lt_of_cell? _ _ s1
        clear hx hq hDI hRS hst2
        go_wp2_with (fail)
        go_at_call 155
        refine (bdOver_any (w.heap.size + 1 + 1) seen 13 _ (alloc_keep _ s1)).mono ?_
        rintro e w5 ⟨rfl, hb5⟩
        replace hstP := hstP.call hb5
        clear hb5
        obtain ⟨z0, z1, z2, z3, zf0, zf1, zf2, zf3⟩ := (hstP.nth 4 rfl).cel4
        have hstA := ((((hstP.nth 4 rfl).setCel 0 (.slice none 0 0)).setCel 1 (.int .i64 seen)).setCel 2 (.int .i64 13)).setCel 3 (.bool false)
        have HA := Lib.hid hstA
        clear hstA hstP
        go_wp2
        obtain ⟨k0, k1, k2, k3⟩ := HA.out.at4 0 rfl
        refine bodyPost_ret (v := .tuple #[.agg #[.slice none 0 0, .int .i64 seen, .int .i64 13, .bool false], .slice none 0 0, .int .i64 13]) ?_ rfl ?_
        · simp [results, Try.results124, go_sem, k0, k1, k2, k3]
        · rw [← HXE.out, Bd.fin_bad (by decide)]
          exact ⟨_, _, rfl, ((St.ofBel HA.out.bel).nilOwn _ _).nilOwn _ _⟩
      obtain ⟨k1, hk1⟩ : ∃ k1 : Nat, st.length - body.length = k1 + 1 := ⟨st.length - body.length - 1, by omega⟩
      have hsub : (st.length : Int) - body.length = (k1 : Int) + 1 := by omega
      have hks : k1 < st.length := by omega
      have hcut : k1 + 1 ≤ st.length := by omega
      have z1 := (hst2.get2.cellOwn (f := Value.int .i64) (fun _ => rfl) k1 hks 0).1
      have lz := World.block_lt_of_cell? _ _ z1
      have hcap : st.length ≤ capa := by
        have := (hst2.ownAt 1 rfl)
        unfold Own at this
        rcases this.2 with ⟨h, _⟩ | ⟨g', cap2, cur, hv, _, _, hn2, _⟩
        · cases h
        · simp only [Value.slice.injEq, Option.some.injEq, Addr.mk.injEq, List.length_map] at hv hn2
          omega
      have hx := Bd.any_out HANY.out k1 hks
      generalize hxx : st.getD k1 0 = x at *
      obtain ⟨d0', d1', d2', d3'⟩ := hDI x hx
      obtain ⟨x, rfl⟩ := Int.eq_ofNat_of_zero_le hx.1
      have hxg : x < gts.length := by have := HGA.out; omega
      obtain ⟨rfl, hbg, -⟩ := G3.out (by omega)
      obtain ⟨ai', ci', z2, z3⟩ := G4.out x hxg
      have z2 := bkeep hst2.bel z2
      simp only [Int.toNat_natCast] at d0' d1' d2' d3'
      obtain ⟨_, bi, oi, _, hv, -, i3, i4⟩ := Enc.sl1 (En := Enc.int .i64) (Value.int .i64) (fun _ _ _ h => h.1) rfl 0 z3
      simp only [Value.slice.injEq, true_and] at hv
      obtain ⟨rfl, rfl⟩ := hv
      obtain ⟨hd, rfl⟩ := Int.eq_ofNat_of_zero_le d0'
      simp only [Int.toNat_natCast] at d2' d3'
      obtain ⟨rfl, hbi, -⟩ := i3 (by omega)
      have z4 := bkeep hst2.bel (i4 hd (by omega)).1
      have hDE : Bd.dest gts st (st.length - body.length) (hd : Int) = (gts.getD x []).getD hd 0 := by
        unfold Bd.dest; rw [hk1, Nat.add_sub_cancel, hxx, Int.toNat_natCast, Int.toNat_natCast]
      generalize (gts.getD x []).getD hd 0 = y at *
      generalize (gts.getD x []).length = ln2 at *
      have hdl : (hd : Int) < ln2 := d1'
      have hxg2 : (x : Int) < gts.length := by omega
      have l2 := World.block_lt_of_cell? _ _ z2
      have l4 := World.block_lt_of_cell? _ _ z4
      have l5 := World.block_lt_of_cell? _ _ y1
      have lS := World.block_lt_of_cell? _ _ s1
      have lD := World.block_lt_of_cell? _ _ d1
      have hw1 : IntKind.i64.wrap ((k1 : Int) + 1 - 1) = k1 := by rw [Int.add_sub_cancel]; exact IntWalk.i64_in _ (by omega)
      have hw2 : IntKind.i64.wrap (k1 : Int) = k1 := IntWalk.i64_in _ (by omega)
      have hk0 : (0 : Int) ≤ k1 := by omega
      have hbl : (body.length : Int) < st.length := by omega
      have hkc : (k1 : Int) + 1 ≤ capa := by omega
      have hsize := int_size st
      have hstP := hst2.alloc #[.int .i64 (hd : Int), .slice ab body.length cb] 186
      have HRED : Hid ((y < 0 → Bd.red gts st ((hd : Int), body) = none) ∧ (¬ y < 0 → Bd.red gts st ((hd : Int), body) = some (st.take (k1 + 1) ++ [y]))) := Lib.hid ⟨fun hy => Bd.red_neg (p := ((hd : Int), body)) hb (by simp only [hDE]; exact hy), fun hy => by
        rw [Bd.red_ok (p := ((hd : Int), body)) hb (by simp only [hDE]; exact hy)]
        simp only [hDE]
        rw [hk1]⟩
      have HQ := Lib.hid hq
      have HPP := Lib.hid hRS
      have HSZ := Lib.hid hsize
      clear hx d0' d1' d2' d3' hq hRS hsize hDI hDE hxx z3 i3 i4 hb hk1 hst2 HRT HRS HDI HG8 HGA A3 A4 P3 P4 G3 G4 HSUB HR3 hc2
      by_cases hy : y < 0
      · have hx := HX1.out
        rw [Bd.go_redNo (ps := l) (gts := gts) (seen := seen) (k := k) (out := out) HA.out rfl (by simp only [Int.toNat_natCast]; rw [HQ.out]; exact HRED.out.1 hy)] at hx
        have HXE := Lib.hid hx
        clear hx
        go_wp2
        go_quiet (fail)
        rename_i nq
        have hstQ := hstP.drewN nq
        obtain ⟨s0, s1, s2, s3⟩ := hstQ.at4 5 rfl
        clear hstP
        go_wp2_with (fail)
        go_at_call 155
        refine (bdOver_any (w.heap.size + 1 + 1) seen 13 _ s1).mono ?_
        rintro e w5 ⟨rfl, hb5⟩
        replace hstQ := hstQ.call hb5
        clear hb5
        obtain ⟨z0, z1, z2, z3, zf0, zf1, zf2, zf3⟩ := (hstQ.nth 4 rfl).cel4
        have hstA := ((((hstQ.nth 4 rfl).setCel 0 (.slice none 0 0)).setCel 1 (.int .i64 seen)).setCel 2 (.int .i64 13)).setCel 3 (.bool false)
        have HA := Lib.hid hstA
        clear hstA hstQ
        go_wp2
        obtain ⟨k0, k1, k2, k3⟩ := HA.out.at4 0 rfl
        refine bodyPost_ret (v := .tuple #[.agg #[.slice none 0 0, .int .i64 seen, .int .i64 13, .bool false], .slice none 0 0, .int .i64 13]) ?_ rfl ?_
        · simp [results, Try.results124, go_sem, k0, k1, k2, k3]
        · rw [← HXE.out, Bd.fin_bad (by decide)]
          exact ⟨_, _, rfl, ((St.ofBel HA.out.bel).nilOwn _ _).nilOwn _ _⟩
      have hy0 : 0 ≤ y := by omega
      have hred := HRED.out.2 hy
      have hsv := HPP.out _ hpl HANY.out hred
      have HSV := Lib.hid hsv
      have hll : (st.take (k1 + 1) ++ [y]).length = k1 + 1 + 1 := by rw [List.length_append, List.length_singleton, List.length_take]; omega
      have hlm : ((st.take (k1 + 1)).map (Value.int .i64)).length = k1 + 1 := by rw [List.length_map, List.length_take]; omega
      have hstQ0 := hstP.get3.take (HSZ.out) (k1 + 1) (by rw [List.length_map]; omega)
      rw [← List.map_take] at hstQ0
      have hol2 : (out ++ [(4, (p : Int))]).length ≤ q + 1 := by rw [List.length_append, List.length_singleton]; omega
      by_cases h60' : 60 < k1 + 1 + 1
      · have hx := HX1.out
        rw [Bd.go_redDeep (ps := l) (gts := gts) (seen := seen) (k := k) (out := out) HA.out rfl (by simp only [Int.toNat_natCast]; rw [HQ.out]; exact hred) (by rw [hll]; exact h60')] at hx
        have HXE := Lib.hid hx
        have HLM := Lib.hid hlm
        have h60i : (60 : Int) < (k1 : Int) + 1 + 1 := by omega
        clear hx hred hsv hll hlm hstP
        go_wp2
        go_quiet (fail)
        rename_i nq
        have hstQ := hstQ0.drewN nq
        clear hstQ0
        go_wp2_with (at_builtin; refine St.app1n intE rfl (.tmp 131) (.tmp 133) rfl rfl hstQ (.int .i64 y) rfl _ 1 rfl (by simp) rfl (int_one2 _) (by rw [HLM.out]; unfold maxLen; omega) (by rw [HLM.out]; omega) ?_; intro g5 n5 c5 w5 hst5; obtain rfl : n5 = k1 + 1 + 1 := (by have h5 := hst5.own.len; rw [List.length_append, HLM.out] at h5; simpa using h5); obtain ⟨s0, s1, s2, s3⟩ := hst5.at4 5 rfl)
        go_wp2_with (fail)
        go_at_call 155
        refine (bdOver_any (w.heap.size + 1 + 1) seen 14 _ s1).mono ?_
        rintro e w5 ⟨rfl, hb5⟩
        replace hst5 := hst5.call hb5
        clear hb5
        obtain ⟨z0, z1, z2, z3, zf0, zf1, zf2, zf3⟩ := (hst5.nth 4 rfl).cel4
        have hstA := ((((hst5.nth 4 rfl).setCel 0 (.slice none 0 0)).setCel 1 (.int .i64 seen)).setCel 2 (.int .i64 14)).setCel 3 (.bool false)
        have HA := Lib.hid hstA
        clear hstA hst5
        go_wp2
        obtain ⟨k0, k1, k2, k3⟩ := HA.out.at4 0 rfl
        refine bodyPost_ret (v := .tuple #[.agg #[.slice none 0 0, .int .i64 seen, .int .i64 14, .bool false], .slice none 0 0, .int .i64 14]) ?_ rfl ?_
        · simp [results, Try.results124, go_sem, k0, k1, k2, k3]
        · rw [← HXE.out, Bd.fin_bad (by decide)]
          exact ⟨_, _, rfl, ((St.ofBel HA.out.bel).nilOwn _ _).nilOwn _ _⟩
      · have hx := HX1.out
        rw [Bd.go_red (ps := l) (gts := gts) (seen := seen) (k := k) (out := out) HA.out rfl (by simp only [Int.toNat_natCast]; rw [HQ.out]; exact hred) (by rw [hll]; exact h60')] at hx
        have HXE := Lib.hid hx
        have HLM := Lib.hid hlm
        have HLL := Lib.hid hll
        have h60i : (k1 : Int) + 1 + 1 ≤ 60 := by omega
        have h60n : k1 + 1 + 1 ≤ 60 := by omega
        clear hx hred hsv hll hlm hstP h60'
        go_wp2
        go_quiet (fail)
        rename_i nq
        have hstQ := hstQ0.drewN nq
        clear hstQ0
        go_wp2_with (first
          | (at_builtin; refine St.app1n intE rfl (.tmp 131) (.tmp 133) rfl rfl hstQ (.int .i64 y) rfl _ 1 rfl (by simp) rfl (int_one2 _) (by rw [HLM.out]; unfold maxLen; omega) (by rw [HLM.out]; omega) ?_; intro g5 n5 c5 w5 hst5; obtain rfl : n5 = k1 + 1 + 1 := (by have h5 := hst5.own.len; rw [List.length_append, HLM.out] at h5; simpa using h5); obtain ⟨d0, d1⟩ := hst5.at2 2 rfl; have lD := World.block_lt_of_cell? _ _ d1)
          | (at_builtin; refine St.app1n evtE2 rfl (.tmp 143) (.tmp 147) rfl rfl hst5.get4 (pairV (4, (p : Int))) rfl _ 1 rfl (by simp) rfl (pair_one2 _) (by rw [List.length_map]; unfold maxLen; omega) (by rw [List.length_map]; omega) ?_; intro g6 n6 c6 w6 hst6))
        have hst7 := hst6.get2.get3.drop.get3.drop
        have hrel : Bd.RefRel l acts gts seen c X w [aCel (w.heap.size + 1 + 1 + 1) 110 #[.slice none 0 0, .int .i64 0, .int .i64 0, .bool false], aCel (w.heap.size + 1 + 1) 110 #[vs, .int .i64 seen, .int .i64 ov, .bool dn], aCel (w.heap.size + 1) 108 #[.slice (some ⟨ba, oa, none⟩) acts.length ca, .slice (some ⟨bg, og, none⟩) gts.length cg], aCel w.heap.size 68 #[.int .i64 t, .int .i64 n, .slice (some ⟨bp, op, none⟩) l.length cp]] (.slice (some ⟨g5, 0, none⟩) (k1 + 1 + 1) c5) (.slice (some ⟨g6, 0, none⟩) n6 c6) (.int .i64 ((q : Int) + 1 + 1)) w6 :=
          ⟨q + 1, st.take (k1 + 1) ++ [y], out ++ [(4, (p : Int))], hqb2, by go_num, HSV.out.1, by rw [HLL.out]; exact h60n, hol2, by rw [List.map_append, List.map_append]; exact hst7, Lib.hid HSV.out.2, Lib.hid (by rw [show 2000 - (q + 1) = k by have := HKK.out; omega]; exact HXE.out)⟩
        go_roundw
        case rel => exact hrel
        case measure => simp [intOf]; omega
    · try simp only at h0 hc1
      subst h0 hc1
      have hx := HX1.out
      rw [Bd.go_acc (ps := l) (gts := gts) (seen := seen) (k := k) (out := out) HA.out rfl] at hx
      have HXE := Lib.hid hx
      have HDC : Hid (decide ((c : Int) = t) = true) := Lib.hid (decide_eq_true hc2)
      clear hk hq e0 e0b hc2 hx
      obtain ⟨z0, z1, z2, z3, zf0, zf1, zf2, zf3⟩ := (hst2.nth 3 rfl).cel4
      obtain ⟨bv, bn, bc, rfl⟩ : ∃ x n c, u13 = .slice x n c := by obtain ⟨x, c, h⟩ := (hst2.ownAt 2 rfl).isLen; exact ⟨_, _, _, h⟩
      have hstA := (((hst2.get4.setCel 0 (.slice none 0 0)).setCel 1 (.int .i64 seen)).setCel 2 (.int .i64 0)).setCel 3 (.bool true)
      have HB := Lib.hid hstA
      clear hst2 hstA
      go_wp2
      obtain ⟨k0, k1, k2, k3⟩ := HB.out.at4 0 rfl
      refine bodyPost_ret (v := .tuple #[.agg #[.slice none 0 0, .int .i64 seen, .int .i64 0, .bool true], .slice bv bn bc, .int .i64 0]) ?_ rfl ?_
      · simp [results, Try.results124, go_sem, k0, k1, k2, k3]
      · rw [← HXE.out, HDC.out, Bd.fin_end rfl]
        exact ⟨_, _, rfl, (HB.out.nth 3 rfl).nilOwn _ _⟩
end Go.Proofs.Ytldapomcjfkeeaa
