/-
  The walk of the law GateSays: a right gate.
-/
import Derived.Test.YtkgpipokfoadiaaGateSaysW
import Derived.Test.YtkgpipokfoadiaaSepRd
import Derived.Deep.CutBlock
namespace Go.Proofs.Ytkgpipokfoadiaa
set_option linter.unusedVariables false
open Go.ChangeShapes Go.WideShapes Go.ChangeAt Go.RowKit

def Wf2 (l : List (Int × Int)) : Prop := ∀ p ∈ l, (-9223372036854775808 ≤ p.1 ∧ p.1 ≤ 9223372036854775807) ∧ (-9223372036854775808 ≤ p.2 ∧ p.2 ≤ 9223372036854775807)
theorem wf2_of {F : Nat → Prop} {w : World} {v : Value} {l : List (Int × Int)} (h : (Enc.two.sl 16).R F w [v] l) : Wf2 l := by
  obtain ⟨ao, b, off, cap, rfl, hl, hx, hy⟩ := slTwo h
  intro p hp
  obtain ⟨i, hi, rfl⟩ := List.getElem_of_mem hp
  have := hy i hi
  have e : l.getD i (0, 0) = l[i] := by simp [List.getD, List.getElem?_eq_getElem hi]
  rw [e] at this
  exact this.2.2
theorem Wf2.app {l m : List (Int × Int)} (h : Wf2 l) (h2 : Wf2 m) : Wf2 (l ++ m) := fun p hp => (List.mem_append.1 hp).elim (h p) (h2 p)
theorem Wf2.drop {l : List (Int × Int)} (h : Wf2 l) (n : Nat) : Wf2 (l.drop n) := fun p hp => h p (List.mem_of_mem_drop hp)
theorem Wf2.take {l : List (Int × Int)} (h : Wf2 l) (n : Nat) : Wf2 (l.take n) := fun p hp => h p (List.mem_of_mem_take hp)

set_option maxRecDepth 100000 in
set_option maxHeartbeats 16000000 in
theorem gateSays_ok {v v2 : Value} {l l2 : List (Int × Int)} (c n k m : Int) (hk0 : -9223372036854775808 ≤ k) (hk1 : k ≤ 9223372036854775807) (hm0 : -9223372036854775808 ≤ m) (hm1 : m ≤ 9223372036854775807) (w : World) {F : Nat → Prop} (hF : ∀ b, F b → b < w.heap.size)
    (h : (Enc.two.sl 16).R F w [v] l) (h2 : (Enc.two.sl 16).R F w [v2] l2) (he : Gt.err l c n = 0) :
    Calls Try.prog 5 #[.agg #[v, .int .i64 c, .int .i64 n], v2, .int .i64 k, .int .i64 m] w (fun e w' => e = .returned (.bool true) ∧ Below w.heap.size w w') := by
  have H := Lib.hid h; have HF := Lib.hid hF; have H2 := Lib.hid h2
  have HWF := Lib.hid (wf2_of h); have HWF2 := Lib.hid (wf2_of h2)
  obtain ⟨ao, b, off, cap, rfl, hl, hx, hy⟩ := slTwo h
  obtain ⟨ao2, b2, off2, cap2, rfl, hl2, hx2, hy2⟩ := slTwo h2
  have HL := Lib.hid hl; have HL2 := Lib.hid hl2
  obtain ⟨q1, q2, q3, q4, q5, _⟩ := Gt.err_zero he
  have HP := Lib.hid (fun (w' : World) (h : (Enc.two.sl 16).R (fun b => b < w'.heap.size) w' [.slice ao l.length cap] l ∧ (Enc.two.sl 16).R (fun b => b < w'.heap.size) w' [.slice ao2 l2.length cap2] l2) => put_any c n w' (fun b hb => hb) h.1 h.2)
  have HGr := Lib.hid (fun (w' : World) (h : (Enc.two.sl 16).R (fun b => b < w'.heap.size) w' [.slice ao l.length cap] l) => grant_any c n k hk0 hk1 w' (fun b hb => hb) h)
  have HT := Lib.hid (fun (w' : World) (h : (Enc.two.sl 16).R (fun b => b < w'.heap.size) w' [.slice ao l.length cap] l) => take_any c n m hm0 hm1 w' (fun b hb => hb) h)
  have HR := Lib.hid (fun (w' : World) (h : (Enc.two.sl 16).R (fun b => b < w'.heap.size) w' [.slice ao l.length cap] l) => rgate_any c n w' (fun b hb => hb) h)
  have HC := Lib.hid (fun (w' : World) (h : (Enc.two.sl 16).R (fun b => b < w'.heap.size) w' [.slice ao l.length cap] l) => gateCheck_any c n w' (fun b hb => hb) h)
  have HE := Lib.hid he
  clear h h2 hF hx hy hx2 hy2 he
  have hst := (St.init w).alloc #[.slice ao l.length cap, .int .i64 c, .int .i64 n] 42
  have HG : Hid (∀ W', Below w.heap.size w W' → (Enc.two.sl 16).R (fun b => b < W'.heap.size) W' [.slice ao l.length cap] l ∧ (Enc.two.sl 16).R (fun b => b < W'.heap.size) W' [.slice ao2 l2.length cap2] l2) := Lib.hid (fun W' hW => ⟨Enc.mono _ H.out (fun b hb => Nat.lt_of_lt_of_le (HF.out b hb) hW.size) (fun b hb => hW.block b (HF.out b hb)), Enc.mono _ H2.out (fun b hb => Nat.lt_of_lt_of_le (HF.out b hb) hW.size) (fun b hb => hW.block b (HF.out b hb))⟩)
  generalize hPL : (if Gt.putE l c n l2 = 0 then l ++ l2 else l) = LP at *
  have HPL := Lib.hid hPL; clear hPL
  generalize hPE : Gt.putE l c n l2 = PE at *
  have HPE := Lib.hid hPE; clear hPE
  generalize hGE : Gt.grantE l c n k = GE at *
  have HGE := Lib.hid hGE; clear hGE
  generalize hGC : Gt.grantC l c n k = GC at *
  have HGC := Lib.hid hGC; clear hGC
  generalize hTE : Gt.takeE l c n m = TE at *
  have HTE := Lib.hid hTE; clear hTE
  generalize hTD : Gt.takeD l c n m = TD at *
  have HTD := Lib.hid hTD; clear hTD
  generalize hC3 : c - (TD : Int) = C3 at *
  have HC3 := Lib.hid hC3; clear hC3
  generalize hN3 : n + (TD : Int) = N3 at *
  have HN3 := Lib.hid hN3; clear hN3
  go_enter Try.func5, Try.ntmps5
  go_wp2_with (fail)
  go_at_call 20
  refine (HR.out _ (HG.out _ hst.bel).1).mono ?_
  rintro e w1 ⟨rfl, hb1⟩
  rw [HE.out]
  have hst1 := hst.call hb1
  obtain ⟨g0, g1, g2, _, _, _⟩ := hst1.cel3
  clear hst hb1
  go_wp2_with (fail)
  go_at_call 21
  refine (HP.out _ (HG.out _ hst1.bel)).mono ?_
  rintro e w2 ⟨a2, m2, c2, rfl, ho2, hb2⟩
  have hst3 := (hst1.pushOwn hb2 ho2).alloc #[.slice a2 m2 c2, .int .i64 c, .int .i64 n] 42
  obtain ⟨g0, g1, g2, _, _, _⟩ := hst3.get3.cel3
  clear hst1 ho2 hb2
  go_wp2_with (fail)
  go_at_call 22
  refine (HGr.out _ (HG.out _ hst3.bel).1).mono ?_
  rintro e w4 ⟨a4, m4, c4, rfl, ho4, hb4⟩
  have hst5 := (hst3.pushOwn hb4 ho4).alloc #[.slice a4 m4 c4, .int .i64 GC, .int .i64 n] 42
  obtain ⟨g0, g1, g2, _, _, _⟩ := hst5.get5.cel3
  clear hst3 ho4 hb4
  go_wp2_with (fail)
  go_at_call 23
  refine (HT.out _ (HG.out _ hst5.bel).1).mono ?_
  rintro e w6 ⟨a6, m6, c6, v6, rfl, ho6⟩
  obtain ⟨a7, n7, c7, rfl⟩ : ∃ a n c, v6 = .slice a n c := by obtain ⟨a, c, h⟩ := ho6.get2.own.isLen; exact ⟨_, _, _, h⟩
  have hst7 := (hst5.join ho6).alloc #[.slice a6 m6 c6, .int .i64 C3, .int .i64 N3] 42
  obtain ⟨g0, g1, g2, _, _, _⟩ := (hst7.one (A := aCel w.heap.size 42 #[.slice ao l.length cap, .int .i64 c, .int .i64 n]) (by repeat (first | exact .head _ | apply List.Mem.tail))).cel3
  clear hst5 ho6
  go_wp2_with (fail)
  go_at_call 24
  refine (HC.out _ (HG.out _ hst7.bel).1).mono ?_
  rintro e w8 ⟨rfl, hb8⟩
  rw [HE.out]
  have hst8 := hst7.call hb8
  clear hst7 hb8 g0 g1 g2
  have HK : Hid (∀ W', Below w8.heap.size w8 W' → (W'.cell? ⟨w.heap.size, 0, none⟩ = some (.slice ao l.length cap) ∧ W'.cell? ⟨w.heap.size, 1, none⟩ = some (.int .i64 c) ∧ W'.cell? ⟨w.heap.size, 2, none⟩ = some (.int .i64 n)) ∧
          (W'.cell? ⟨w2.heap.size, 0, none⟩ = some (.slice a2 m2 c2) ∧ W'.cell? ⟨w2.heap.size, 1, none⟩ = some (.int .i64 c) ∧ W'.cell? ⟨w2.heap.size, 2, none⟩ = some (.int .i64 n) ∧ (Enc.two.sl 16).R (fun b => b < W'.heap.size) W' [.slice a2 m2 c2] LP) ∧
          (W'.cell? ⟨w4.heap.size, 0, none⟩ = some (.slice a4 m4 c4) ∧ W'.cell? ⟨w4.heap.size, 1, none⟩ = some (.int .i64 GC) ∧ W'.cell? ⟨w4.heap.size, 2, none⟩ = some (.int .i64 n) ∧ (Enc.two.sl 16).R (fun b => b < W'.heap.size) W' [.slice a4 m4 c4] l) ∧
          (W'.cell? ⟨w6.heap.size, 0, none⟩ = some (.slice a6 m6 c6) ∧ W'.cell? ⟨w6.heap.size, 1, none⟩ = some (.int .i64 C3) ∧ W'.cell? ⟨w6.heap.size, 2, none⟩ = some (.int .i64 N3) ∧ (Enc.two.sl 16).R (fun b => b < W'.heap.size) W' [.slice a6 m6 c6] (l.drop TD)) ∧ (Enc.two.sl 16).R (fun b => b < W'.heap.size) W' [.slice a7 n7 c7] (l.take TD) ∧ Below w.heap.size w W') := Lib.hid (fun W' hW => by
            have h9 := hst8.call hW
            have k1 := (h9.one (A := aCel w.heap.size 42 #[.slice ao l.length cap, .int .i64 c, .int .i64 n]) (by repeat (first | exact .head _ | apply List.Mem.tail))).cel3
            have k7 := h9.one (A := aOwn 39 2 (.slice a7 n7 c7) ((l.take TD).map pairV)) (by repeat (first | exact .head _ | apply List.Mem.tail))
            have e1 : (LP.length : Int) * 16 ≤ 140737488355328 := by rw [← HPL.out]; split <;> first | (rename_i hz; have h8 := HPE.out; rw [hz] at h8; unfold Gt.putE at h8; rw [HE.out, if_neg (by simp)] at h8; rw [List.length_append]; split at h8; (· omega); split at h8; (· omega); omega) | exact HL.out
            have e2 : ((l.drop TD).length : Int) * 16 ≤ 140737488355328 := by rw [List.length_drop]; have := HL.out; omega
            have e3 : ((l.take TD).length : Int) * 16 ≤ 140737488355328 := by rw [List.length_take]; have := HL.out; omega
            have e4 : Wf2 LP := by rw [← HPL.out]; split <;> first | exact HWF.out.app HWF2.out | exact HWF.out
            refine ⟨⟨k1.1, k1.2.1, k1.2.2.1⟩, ?_, ?_, ?_, k7.own.two (fun b hb => (k7.fpOwn b hb).2) e3 (HWF.out.take TD), h9.bel⟩
            · exact h9.gate (T := 42) (e := 39) (g := w2.heap.size) (v := .slice a2 m2 c2) (v1 := .int .i64 c) (v2 := .int .i64 n) (by repeat (first | exact .head _ | apply List.Mem.tail)) (by repeat (first | exact .head _ | apply List.Mem.tail)) e1 e4
            · exact h9.gate (T := 42) (e := 39) (g := w4.heap.size) (v := .slice a4 m4 c4) (v1 := .int .i64 GC) (v2 := .int .i64 n) (by repeat (first | exact .head _ | apply List.Mem.tail)) (by repeat (first | exact .head _ | apply List.Mem.tail)) HL.out HWF.out
            · exact h9.gate (T := 42) (e := 39) (g := w6.heap.size) (v := .slice a6 m6 c6) (v1 := .int .i64 C3) (v2 := .int .i64 N3) (by repeat (first | exact .head _ | apply List.Mem.tail)) (by repeat (first | exact .head _ | apply List.Mem.tail)) e2 (HWF.out.drop TD))
  have hlt8 : w.heap.size < w8.heap.size := (hst8.one (A := aCel w.heap.size 42 #[.slice ao l.length cap, .int .i64 c, .int .i64 n]) (by repeat (first | exact .head _ | apply List.Mem.tail))).lo _ (.head _) _ (.head _) |>.2
  clear hst8
  obtain ⟨⟨_, _, _⟩, _⟩ := HK.out _ (Below.refl _ _)
  go_wp2_with (fail)
  have hB3 : ∀ o1 o2 o3, Below w8.heap.size w8 (((w8.alloc o1).alloc o2).alloc o3) := fun o1 o2 o3 => (((Below.refl _ _).alloc (Nat.le_refl _) _).alloc (by simp) _).alloc (by simp; omega) _
  have ga := fun o1 o2 o3 => (HK.out _ (hB3 o1 o2 o3)).1.1
  have gb := fun o1 o2 o3 => (HK.out _ (hB3 o1 o2 o3)).1.2.1
  have gc := fun o1 o2 o3 => (HK.out _ (hB3 o1 o2 o3)).1.2.2
  clear hB3
  have hst0 := (((St.init w8).alloc #[.slice ao l.length cap, .int .i64 c, .int .i64 n] 42).alloc #[.slice ao l.length cap, .int .i64 c, .int .i64 n] 42).alloc #[.slice ao l.length cap, .int .i64 c, .int .i64 n] 42
  simp only [World.size_alloc] at hst0
  go_upto_region 9 with fail
  go_cut [17, 18, 19] (fun s17 s18 s19 wx => ∃ ga gb gc : Nat, s17 = .pointer (some ⟨ga, 0, none⟩) ∧ s18 = .pointer (some ⟨gb, 0, none⟩) ∧ s19 = .pointer (some ⟨gc, 0, none⟩) ∧ St w8 wx [aCel ga 42 #[.slice ao l.length cap, .int .i64 c, .int .i64 n], aCel gb 42 #[.slice ao l.length cap, .int .i64 c, .int .i64 n], aCel gc 42 #[.slice ao l.length cap, .int .i64 c, .int .i64 n]])
  case first =>
    go_region
    all_goals
      go_wp2_with fail
      go_meet
      have hst9 := hst0.drew
      clear hst0
      first
        | exact ⟨_, _, _, rfl, rfl, rfl, hst9⟩
        | exact ⟨_, _, _, rfl, rfl, rfl, hst9.get2⟩
        | exact ⟨_, _, _, rfl, rfl, rfl, hst9.get3⟩
        | exact ⟨_, _, _, rfl, rfl, rfl, hst9.get3.get2⟩
        | exact ⟨_, _, _, rfl, rfl, rfl, hst9.get3.get3⟩
        | exact ⟨_, _, _, rfl, rfl, rfl, hst9.get3.get3.get2⟩
  case rest =>
    clear hst0 ga gb gc
    obtain ⟨ga, gb, gc, rfl, rfl, rfl, hst⟩ := hcut
    obtain ⟨x0, x1, x2, _, _, _⟩ := hst.cel3
    obtain ⟨y0, y1, y2, _, _, _⟩ := hst.get2.cel3
    obtain ⟨z0, z1, z2, _, _, _⟩ := hst.get3.cel3
    obtain ⟨⟨_, _, _⟩, _⟩ := HK.out _ hst.bel
    go_upto_block 0 with (fail)
    go_cut [21] (fun s21 wx => ∃ (fp : List Nat) (v9 : Value), s21 = .int .i64 PE ∧ St w8 wx [aRd (Enc.two.sl 16) w8 fp [v9] LP, aCel ga 42 #[v9, .int .i64 c, .int .i64 n], aCel gb 42 #[.slice ao l.length cap, .int .i64 c, .int .i64 n], aCel gc 42 #[.slice ao l.length cap, .int .i64 c, .int .i64 n]])
    case first =>
      go_wp2_with (fail)
      go_at_call 26
      refine (eventsOf_any l2 _ _ _ (HG.out _ (HK.out _ hst.bel).2.2.2.2.2).2).mono ?_
      rintro e w9 ⟨rfl, hb9⟩
      replace hst := hst.call hb9
      have hF : ∀ b, b < w8.heap.size → b < w8.heap.size := fun _ h => h
      have hG8 := (HG.out _ (HK.out _ (Below.refl _ _)).2.2.2.2.2)
      obtain ⟨x0, x1, x2, xf0, _, _⟩ := hst.cel3
      obtain ⟨⟨_, _, _⟩, _⟩ := HK.out _ hst.bel
      clear hb9 y0 y1 y2 z0 z1 z2
      have h0 := HPE.out; have h1 := HPL.out
      unfold Gt.putE at h0
      rw [HE.out, if_neg (by simp)] at h0
      have H1 := Lib.hid h1; clear h1
      have HG8 := Lib.hid hG8; clear hG8
      cases ha : l2.any Evt.odd
      · rw [ha, if_neg (by simp)] at h0
        by_cases hlong : 4200 - (l.length : Int) < l2.length
        · rw [if_pos hlong] at h0
          subst h0
          have h1 := H1.out
          rw [if_neg (by decide)] at h1
          subst h1
          clear ha H1
          go_wp2_with (fail)
          go_meet
          case rel => exact ⟨[], _, rfl, hst.pushOld HG8.out.1 hF⟩
        · rw [if_neg hlong] at h0
          subst h0
          have h1 := H1.out
          rw [if_pos rfl] at h1
          clear ha H1
          have H1 := Lib.hid h1; clear h1
          have hsn := hst.nilOwn 39 2
          have hE1 := (HG.out _ (HK.out _ hst.bel).2.2.2.2.2).1
          go_wp2_with (first
            | (at_builtin; refine St.appSl evtE rfl (.const (.slice none 0 0)) (.tmp 89) rfl rfl hsn rfl hE1 rfl pairV (fun w cs a h => (two_cells h).1) (fun a q hq => pair_one a q hq) (by simp; have := HL.out; have := HL2.out; omega) (by simp; have := HL.out; have := HL2.out; omega) ?_; intro v4 w4 hst4; rw [List.nil_append] at hst4; have hE2 := (HG.out _ (HK.out _ hst4.bel).2.2.2.2.2).2; clear hsn hE1)
            | (at_builtin; refine St.appSl evtE rfl (.tmp 90) (.tmp 91) rfl rfl hst4 rfl hE2 rfl pairV (fun w cs a h => (two_cells h).1) (fun a q hq => pair_one a q hq) (by simp; have := HL.out; have := HL2.out; omega) (by simp; have := HL.out; have := HL2.out; omega) ?_; intro v5 w5 hst5; rw [← List.map_append] at hst5; obtain ⟨a5, c5, rfl⟩ := hst5.own.isLen; rw [List.length_map, List.length_append] at hst5 ⊢; obtain ⟨x0, x1, x2, xf0, _, _⟩ := hst5.get2.cel3; clear hst4 hE2))
          go_meet
          case rel =>
            refine ⟨Value.ownBlock (.slice a5 (l.length + l2.length) c5) |>.toList, .slice a5 (l.length + l2.length) c5, rfl, ?_⟩
            rw [← H1.out]
            exact ((hst5.ownRd (En := Enc.two) (bytes := 16) rfl (fun _ _ a ha => two_mk ((HWF.out.app HWF2.out) a ha).1 ((HWF.out.app HWF2.out) a ha).2) (by rw [List.length_append]; omega)).get2.setCel 0 _).get2
      · rw [ha, if_pos rfl] at h0
        subst h0
        have h1 := H1.out
        rw [if_neg (by decide)] at h1
        subst h1
        clear ha H1
        go_wp2_with (fail)
        go_meet
        case rel => exact ⟨[], _, rfl, hst.pushOld HG8.out.1 hF⟩
    case rest =>
      clear x0 x1 x2 y0 y1 y2 z0 z1 z2 hst
      obtain ⟨fp, v9, rfl, hst⟩ := hcut
      obtain ⟨x0, x1, x2, xf0, xf1, _⟩ := hst.get3.cel3
      obtain ⟨⟨_, _, _⟩, _⟩ := HK.out _ hst.bel
      have hk3 : k < 1 ∨ (¬ k < 1 ∧ 1073741824 < k) ∨ (¬ k < 1 ∧ ¬ 1073741824 < k) := by omega
      have hmin : ∀ (W : World) ts t, (Builtin.min_ ts t #[.int .i64 1073741824, .int .i64 (c + k)]).run Try.prog W = .ok (.int .i64 (Gt.sum c k)) W := fun W ts t => by rw [run_min_int2, Gt.sum]; congr 2; split <;> split <;> omega
      have h0 := HGE.out; have h1 := HGC.out
      unfold Gt.grantE at h0
      unfold Gt.grantC at h1
      rw [HE.out, if_neg (by simp)] at h0
      rw [HGE.out] at h1
      generalize Gt.sum c k = SU at *
      have HGE := Lib.hid h0; have HGC := Lib.hid h1; clear h0 h1
      have h2 := HTE.out; have h3 := HTD.out
      unfold Gt.takeE at h2
      unfold Gt.takeD at h3
      rw [HE.out, if_neg (by simp)] at h2
      rw [HTE.out] at h3
      have HTE := Lib.hid h2; have HTD := Lib.hid h3; clear h2 h3
      have hcap : l.length ≤ cap := by
        obtain ⟨ao', b', off', cap', hq, hq1, _⟩ := H.out
        simp only [List.cons.injEq, and_true, Value.slice.injEq] at hq
        omega
      have HR8 := Lib.hid (HG.out _ (HK.out _ (Below.refl _ _)).2.2.2.2.2).1
      clear x0 x1 x2 xf0 xf1
      rcases hk3 with hk | ⟨hka, hk⟩ | ⟨hka, hk⟩
      · obtain rfl : GE = 1 := by rw [← HGE.out, if_pos (.inl hk)]
        obtain rfl : c = GC := by rw [← HGC.out, if_neg (by decide)]
        have hstB := hst.get3
        obtain ⟨x0, x1, x2, xf0, xf1, _⟩ := hstB.cel3
        clear hst
        go_upto_if 119 with (fail)
        clear x0 x1 x2 xf0 xf1
        by_cases hm : m < 0
        · obtain rfl : TE = 1 := by rw [← HTE.out, if_pos hm]
          obtain rfl : TD = 0 := by rw [← HTD.out, if_neg (by decide)]
          obtain rfl : C3 = c := by rw [← HC3.out]; simp
          obtain rfl : N3 = n := by rw [← HN3.out]; simp
          have hstC := hstB.get4
          have HV3 : Hid ((Enc.two.sl 16).R (fun b => b < w8.heap.size) w8 [.slice ao l.length cap] (l.drop 0)) := Lib.hid (by rw [List.drop_zero]; exact HR8.out)
          have HV4 : Hid ((Enc.two.sl 16).R (fun b => b < w8.heap.size) w8 [.slice none 0 0] (l.take 0)) := Lib.hid ⟨none, 0, 0, 0, rfl, Nat.le_refl _, by decide, by simp, fun _ => rfl, fun h => by simp at h, fun i hi => by simp at hi⟩
          clear hstB

          obtain ⟨x0, x1, x2, _, _, _⟩ := hstC.get4.cel3
          obtain ⟨y0, y1, y2, _, _, _⟩ := hstC.get2.cel3
          obtain ⟨z0, z1, z2, _, _, _⟩ := hstC.cel3
          have hK1 := HK.out _ hstC.bel
          obtain ⟨⟨_, _, _⟩, ⟨_, _, _, HA⟩, ⟨_, _, _, HBB⟩, ⟨_, _, _, HCC⟩, HDD, hBel⟩ := hK1
          replace HA := Lib.hid HA; replace HBB := Lib.hid HBB; replace HCC := Lib.hid HCC; replace HDD := Lib.hid HDD
          go_wp2_with (fail)
          go_at_call 25
          refine (sameGate_any _ _ _ (fun b hb => hb) (fun b hb => hb) HA.out hstC.get3.rdLt).mono ?_
          rintro e w11 ⟨rfl, hb11⟩
          have hstD := hstC.call hb11
          clear hb11 x0 x1 x2 y0 y1 y2 z0 z1 z2 hstC
          obtain ⟨y0, y1, y2, _, _, _⟩ := hstD.get2.cel3
          obtain ⟨z0, z1, z2, _, _, _⟩ := hstD.cel3
          have hK1 := HK.out _ hstD.bel
          obtain ⟨⟨_, _, _⟩, ⟨_, _, _, HA⟩, ⟨_, _, _, HBB⟩, ⟨_, _, _, HCC⟩, HDD, hBel⟩ := hK1
          replace HA := Lib.hid HA; replace HBB := Lib.hid HBB; replace HCC := Lib.hid HCC; replace HDD := Lib.hid HDD
          go_wp2_with (fail)
          go_at_call 25
          refine (sameGate_any _ _ _ (fun b hb => hb) (fun b hb => hb) HBB.out (HG.out _ hBel).1).mono ?_
          rintro e w12 ⟨rfl, hb12⟩
          have hstE := hstD.call hb12
          clear hb12 y0 y1 y2 z0 z1 z2 hstD
          obtain ⟨z0, z1, z2, _, _, _⟩ := hstE.cel3
          have hK1 := HK.out _ hstE.bel
          obtain ⟨⟨_, _, _⟩, ⟨_, _, _, HA⟩, ⟨_, _, _, HBB⟩, ⟨_, _, _, HCC⟩, HDD, hBel⟩ := hK1
          replace HA := Lib.hid HA; replace HBB := Lib.hid HBB; replace HCC := Lib.hid HCC; replace HDD := Lib.hid HDD
          go_wp2_with (fail)
          go_at_call 25
          refine (sameGate_any _ _ _ (fun b hb => hb) (fun b hb => Nat.lt_of_lt_of_le hb hstE.bel.size) HCC.out (Enc.mono _ HV3.out (fun _ h => h) (fun b hb => hstE.bel.block b hb))).mono ?_
          rintro e w13 ⟨rfl, hb13⟩
          have hstF := hstE.call hb13
          clear hb13 z0 z1 z2 hstE
          have hK1 := HK.out _ hstF.bel
          obtain ⟨⟨_, _, _⟩, ⟨_, _, _, HA⟩, ⟨_, _, _, HBB⟩, ⟨_, _, _, HCC⟩, HDD, hBel⟩ := hK1
          replace HA := Lib.hid HA; replace HBB := Lib.hid HBB; replace HCC := Lib.hid HCC; replace HDD := Lib.hid HDD
          go_wp2_with (fail)
          go_at_call 19
          refine (eqEvts _ HDD.out (Enc.mono _ HV4.out (fun _ h => h) (fun b hb => hstF.bel.block b hb))).mono ?_
          rintro e w14 ⟨rfl, hb14⟩
          have hstH := hstF.call hb14
          go_wp2_with (fail)
          go_ret
          exact ⟨by simp, (HK.out _ hstH.bel).2.2.2.2.2⟩
        · obtain rfl : TE = 0 := by rw [← HTE.out, if_neg hm]
          have hTD := HTD.out
          rw [if_pos rfl] at hTD
          have hN := Gt.cut_in (m := m) (c := c) (n := l.length) (by omega) q2
          have hmin := fun (W : World) ts t => run_min_int3 (P := Try.prog) (w := W) ts t .i64 .i64 .i64 m c (l.length : Int)
          have hcd : (if (l.length : Int) < (if c < m then c else m) then (l.length : Int) else (if c < m then c else m)) = TD := by rw [← hTD]; have := hN.1; rw [Int.toNat_of_nonneg this]; unfold Gt.cut; rfl
          rw [hcd] at hmin
          have hN1 : TD ≤ l.length := by omega
          have hN2 : (TD : Int) ≤ c := by omega
          clear hcd hTD hN
          obtain rfl : C3 = c - (TD : Int) := HC3.out.symm
          obtain rfl : N3 = n + (TD : Int) := HN3.out.symm
          have hv1 : (Enc.two.sl 16).R (fun b => b < w8.heap.size) w8 [Go.sliced ao 0 TD cap 2] ((l.take TD).drop 0) := Enc.sliced HR8.out 0 TD (by omega) (by omega)
          have hv2 : (Enc.two.sl 16).R (fun b => b < w8.heap.size) w8 [Go.sliced ao TD l.length cap 2] ((l.take l.length).drop TD) := Enc.sliced HR8.out TD l.length (by omega) (Nat.le_refl _)
          rw [List.drop_zero] at hv1
          rw [List.take_of_length_le (Nat.le_refl l.length)] at hv2
          have hs1 : ∀ W, (Instr.slice 32 (.slice ao l.length cap) none (some (.int .i64 (TD : Int))) none).run Try.prog W = .ok (Go.sliced ao 0 TD cap 2) W := fun W => by
            have hsz : (sizeOf (Try.prog.elem 32)).run Try.prog W = .ok 2 W := by kernel_rfl
            rw [run_slice_h W 32 ao l.length cap (by kernel_rfl) .i64 TD (by omega) (by omega), hsz]; rfl
          have hs2 : ∀ W, (Instr.slice 32 (.slice ao l.length cap) (some (.int .i64 (TD : Int))) none none).run Try.prog W = .ok (Go.sliced ao TD l.length cap 2) W := fun W => by
            have hsz : (sizeOf (Try.prog.elem 32)).run Try.prog W = .ok 2 W := by kernel_rfl
            rw [run_slice_l W 32 ao l.length cap (by kernel_rfl) .i64 TD (by omega) (by omega), hsz]; rfl
          obtain ⟨as2, ns2, cs2, hsl2⟩ : ∃ a n c, Go.sliced ao TD l.length cap 2 = .slice a n c := by
            obtain ⟨_, _, _, _, hq, _⟩ := hv2
            simp only [List.cons.injEq, and_true] at hq
            exact ⟨_, _, _, hq⟩
          rw [hsl2] at hs2 hv2
          generalize Go.sliced ao 0 TD cap 2 = V1 at hs1 hv1
          have HV3 := Lib.hid hv2; have HV4 := Lib.hid hv1
          clear hsl2 hv1 hv2
          obtain ⟨⟨_, _, _⟩, _⟩ := HK.out _ hstB.bel
          go_wp2_with (fail)
          go_still_tail 13, (by kernel_rfl)
          change wpList _ _ _ _ _ wc.drew
          obtain ⟨x0, x1, x2, xf0, xf1, xf2⟩ := hstB.drew.get4.cel3
          have hstC := ((hstB.drew.get4.setCel 0 (.slice as2 ns2 cs2)).setCel 1 (.int .i64 (c - (TD : Int)))).setCel 2 (.int .i64 (n + (TD : Int)))
          generalize wc.drew = wd at *
          obtain ⟨x0, x1, x2, _, _, _⟩ := hstC.get4.cel3
          obtain ⟨y0, y1, y2, _, _, _⟩ := hstC.get2.cel3
          obtain ⟨z0, z1, z2, _, _, _⟩ := hstC.cel3
          have hK1 := HK.out _ hstC.bel
          obtain ⟨⟨_, _, _⟩, ⟨_, _, _, HA⟩, ⟨_, _, _, HBB⟩, ⟨_, _, _, HCC⟩, HDD, hBel⟩ := hK1
          replace HA := Lib.hid HA; replace HBB := Lib.hid HBB; replace HCC := Lib.hid HCC; replace HDD := Lib.hid HDD
          go_wp2_with (fail)
          go_at_call 25
          refine (sameGate_any _ _ _ (fun b hb => hb) (fun b hb => hb) HA.out hstC.get3.rdLt).mono ?_
          rintro e w11 ⟨rfl, hb11⟩
          have hstD := hstC.call hb11
          clear hb11 x0 x1 x2 y0 y1 y2 z0 z1 z2 hstC
          obtain ⟨y0, y1, y2, _, _, _⟩ := hstD.get2.cel3
          obtain ⟨z0, z1, z2, _, _, _⟩ := hstD.cel3
          have hK1 := HK.out _ hstD.bel
          obtain ⟨⟨_, _, _⟩, ⟨_, _, _, HA⟩, ⟨_, _, _, HBB⟩, ⟨_, _, _, HCC⟩, HDD, hBel⟩ := hK1
          replace HA := Lib.hid HA; replace HBB := Lib.hid HBB; replace HCC := Lib.hid HCC; replace HDD := Lib.hid HDD
          go_wp2_with (fail)
          go_at_call 25
          refine (sameGate_any _ _ _ (fun b hb => hb) (fun b hb => hb) HBB.out (HG.out _ hBel).1).mono ?_
          rintro e w12 ⟨rfl, hb12⟩
          have hstE := hstD.call hb12
          clear hb12 y0 y1 y2 z0 z1 z2 hstD
          obtain ⟨z0, z1, z2, _, _, _⟩ := hstE.cel3
          have hK1 := HK.out _ hstE.bel
          obtain ⟨⟨_, _, _⟩, ⟨_, _, _, HA⟩, ⟨_, _, _, HBB⟩, ⟨_, _, _, HCC⟩, HDD, hBel⟩ := hK1
          replace HA := Lib.hid HA; replace HBB := Lib.hid HBB; replace HCC := Lib.hid HCC; replace HDD := Lib.hid HDD
          go_wp2_with (fail)
          go_at_call 25
          refine (sameGate_any _ _ _ (fun b hb => hb) (fun b hb => Nat.lt_of_lt_of_le hb hstE.bel.size) HCC.out (Enc.mono _ HV3.out (fun _ h => h) (fun b hb => hstE.bel.block b hb))).mono ?_
          rintro e w13 ⟨rfl, hb13⟩
          have hstF := hstE.call hb13
          clear hb13 z0 z1 z2 hstE
          have hK1 := HK.out _ hstF.bel
          obtain ⟨⟨_, _, _⟩, ⟨_, _, _, HA⟩, ⟨_, _, _, HBB⟩, ⟨_, _, _, HCC⟩, HDD, hBel⟩ := hK1
          replace HA := Lib.hid HA; replace HBB := Lib.hid HBB; replace HCC := Lib.hid HCC; replace HDD := Lib.hid HDD
          go_wp2_with (fail)
          go_at_call 19
          refine (eqEvts _ HDD.out (Enc.mono _ HV4.out (fun _ h => h) (fun b hb => hstF.bel.block b hb))).mono ?_
          rintro e w14 ⟨rfl, hb14⟩
          have hstH := hstF.call hb14
          go_wp2_with (fail)
          go_ret
          exact ⟨by simp, (HK.out _ hstH.bel).2.2.2.2.2⟩
      · obtain rfl : GE = 1 := by rw [← HGE.out, if_pos (.inr hk)]
        obtain rfl : c = GC := by rw [← HGC.out, if_neg (by decide)]
        have hstB := hst.get3
        obtain ⟨x0, x1, x2, xf0, xf1, _⟩ := hstB.cel3
        clear hst
        go_upto_if 119 with (fail)
        clear x0 x1 x2 xf0 xf1
        by_cases hm : m < 0
        · obtain rfl : TE = 1 := by rw [← HTE.out, if_pos hm]
          obtain rfl : TD = 0 := by rw [← HTD.out, if_neg (by decide)]
          obtain rfl : C3 = c := by rw [← HC3.out]; simp
          obtain rfl : N3 = n := by rw [← HN3.out]; simp
          have hstC := hstB.get4
          have HV3 : Hid ((Enc.two.sl 16).R (fun b => b < w8.heap.size) w8 [.slice ao l.length cap] (l.drop 0)) := Lib.hid (by rw [List.drop_zero]; exact HR8.out)
          have HV4 : Hid ((Enc.two.sl 16).R (fun b => b < w8.heap.size) w8 [.slice none 0 0] (l.take 0)) := Lib.hid ⟨none, 0, 0, 0, rfl, Nat.le_refl _, by decide, by simp, fun _ => rfl, fun h => by simp at h, fun i hi => by simp at hi⟩
          clear hstB

          obtain ⟨x0, x1, x2, _, _, _⟩ := hstC.get4.cel3
          obtain ⟨y0, y1, y2, _, _, _⟩ := hstC.get2.cel3
          obtain ⟨z0, z1, z2, _, _, _⟩ := hstC.cel3
          have hK1 := HK.out _ hstC.bel
          obtain ⟨⟨_, _, _⟩, ⟨_, _, _, HA⟩, ⟨_, _, _, HBB⟩, ⟨_, _, _, HCC⟩, HDD, hBel⟩ := hK1
          replace HA := Lib.hid HA; replace HBB := Lib.hid HBB; replace HCC := Lib.hid HCC; replace HDD := Lib.hid HDD
          go_wp2_with (fail)
          go_at_call 25
          refine (sameGate_any _ _ _ (fun b hb => hb) (fun b hb => hb) HA.out hstC.get3.rdLt).mono ?_
          rintro e w11 ⟨rfl, hb11⟩
          have hstD := hstC.call hb11
          clear hb11 x0 x1 x2 y0 y1 y2 z0 z1 z2 hstC
          obtain ⟨y0, y1, y2, _, _, _⟩ := hstD.get2.cel3
          obtain ⟨z0, z1, z2, _, _, _⟩ := hstD.cel3
          have hK1 := HK.out _ hstD.bel
          obtain ⟨⟨_, _, _⟩, ⟨_, _, _, HA⟩, ⟨_, _, _, HBB⟩, ⟨_, _, _, HCC⟩, HDD, hBel⟩ := hK1
          replace HA := Lib.hid HA; replace HBB := Lib.hid HBB; replace HCC := Lib.hid HCC; replace HDD := Lib.hid HDD
          go_wp2_with (fail)
          go_at_call 25
          refine (sameGate_any _ _ _ (fun b hb => hb) (fun b hb => hb) HBB.out (HG.out _ hBel).1).mono ?_
          rintro e w12 ⟨rfl, hb12⟩
          have hstE := hstD.call hb12
          clear hb12 y0 y1 y2 z0 z1 z2 hstD
          obtain ⟨z0, z1, z2, _, _, _⟩ := hstE.cel3
          have hK1 := HK.out _ hstE.bel
          obtain ⟨⟨_, _, _⟩, ⟨_, _, _, HA⟩, ⟨_, _, _, HBB⟩, ⟨_, _, _, HCC⟩, HDD, hBel⟩ := hK1
          replace HA := Lib.hid HA; replace HBB := Lib.hid HBB; replace HCC := Lib.hid HCC; replace HDD := Lib.hid HDD
          go_wp2_with (fail)
          go_at_call 25
          refine (sameGate_any _ _ _ (fun b hb => hb) (fun b hb => Nat.lt_of_lt_of_le hb hstE.bel.size) HCC.out (Enc.mono _ HV3.out (fun _ h => h) (fun b hb => hstE.bel.block b hb))).mono ?_
          rintro e w13 ⟨rfl, hb13⟩
          have hstF := hstE.call hb13
          clear hb13 z0 z1 z2 hstE
          have hK1 := HK.out _ hstF.bel
          obtain ⟨⟨_, _, _⟩, ⟨_, _, _, HA⟩, ⟨_, _, _, HBB⟩, ⟨_, _, _, HCC⟩, HDD, hBel⟩ := hK1
          replace HA := Lib.hid HA; replace HBB := Lib.hid HBB; replace HCC := Lib.hid HCC; replace HDD := Lib.hid HDD
          go_wp2_with (fail)
          go_at_call 19
          refine (eqEvts _ HDD.out (Enc.mono _ HV4.out (fun _ h => h) (fun b hb => hstF.bel.block b hb))).mono ?_
          rintro e w14 ⟨rfl, hb14⟩
          have hstH := hstF.call hb14
          go_wp2_with (fail)
          go_ret
          exact ⟨by simp, (HK.out _ hstH.bel).2.2.2.2.2⟩
        · obtain rfl : TE = 0 := by rw [← HTE.out, if_neg hm]
          have hTD := HTD.out
          rw [if_pos rfl] at hTD
          have hN := Gt.cut_in (m := m) (c := c) (n := l.length) (by omega) q2
          have hmin := fun (W : World) ts t => run_min_int3 (P := Try.prog) (w := W) ts t .i64 .i64 .i64 m c (l.length : Int)
          have hcd : (if (l.length : Int) < (if c < m then c else m) then (l.length : Int) else (if c < m then c else m)) = TD := by rw [← hTD]; have := hN.1; rw [Int.toNat_of_nonneg this]; unfold Gt.cut; rfl
          rw [hcd] at hmin
          have hN1 : TD ≤ l.length := by omega
          have hN2 : (TD : Int) ≤ c := by omega
          clear hcd hTD hN
          obtain rfl : C3 = c - (TD : Int) := HC3.out.symm
          obtain rfl : N3 = n + (TD : Int) := HN3.out.symm
          have hv1 : (Enc.two.sl 16).R (fun b => b < w8.heap.size) w8 [Go.sliced ao 0 TD cap 2] ((l.take TD).drop 0) := Enc.sliced HR8.out 0 TD (by omega) (by omega)
          have hv2 : (Enc.two.sl 16).R (fun b => b < w8.heap.size) w8 [Go.sliced ao TD l.length cap 2] ((l.take l.length).drop TD) := Enc.sliced HR8.out TD l.length (by omega) (Nat.le_refl _)
          rw [List.drop_zero] at hv1
          rw [List.take_of_length_le (Nat.le_refl l.length)] at hv2
          have hs1 : ∀ W, (Instr.slice 32 (.slice ao l.length cap) none (some (.int .i64 (TD : Int))) none).run Try.prog W = .ok (Go.sliced ao 0 TD cap 2) W := fun W => by
            have hsz : (sizeOf (Try.prog.elem 32)).run Try.prog W = .ok 2 W := by kernel_rfl
            rw [run_slice_h W 32 ao l.length cap (by kernel_rfl) .i64 TD (by omega) (by omega), hsz]; rfl
          have hs2 : ∀ W, (Instr.slice 32 (.slice ao l.length cap) (some (.int .i64 (TD : Int))) none none).run Try.prog W = .ok (Go.sliced ao TD l.length cap 2) W := fun W => by
            have hsz : (sizeOf (Try.prog.elem 32)).run Try.prog W = .ok 2 W := by kernel_rfl
            rw [run_slice_l W 32 ao l.length cap (by kernel_rfl) .i64 TD (by omega) (by omega), hsz]; rfl
          obtain ⟨as2, ns2, cs2, hsl2⟩ : ∃ a n c, Go.sliced ao TD l.length cap 2 = .slice a n c := by
            obtain ⟨_, _, _, _, hq, _⟩ := hv2
            simp only [List.cons.injEq, and_true] at hq
            exact ⟨_, _, _, hq⟩
          rw [hsl2] at hs2 hv2
          generalize Go.sliced ao 0 TD cap 2 = V1 at hs1 hv1
          have HV3 := Lib.hid hv2; have HV4 := Lib.hid hv1
          clear hsl2 hv1 hv2
          obtain ⟨⟨_, _, _⟩, _⟩ := HK.out _ hstB.bel
          go_wp2_with (fail)
          go_still_tail 13, (by kernel_rfl)
          change wpList _ _ _ _ _ wc.drew
          obtain ⟨x0, x1, x2, xf0, xf1, xf2⟩ := hstB.drew.get4.cel3
          have hstC := ((hstB.drew.get4.setCel 0 (.slice as2 ns2 cs2)).setCel 1 (.int .i64 (c - (TD : Int)))).setCel 2 (.int .i64 (n + (TD : Int)))
          generalize wc.drew = wd at *
          obtain ⟨x0, x1, x2, _, _, _⟩ := hstC.get4.cel3
          obtain ⟨y0, y1, y2, _, _, _⟩ := hstC.get2.cel3
          obtain ⟨z0, z1, z2, _, _, _⟩ := hstC.cel3
          have hK1 := HK.out _ hstC.bel
          obtain ⟨⟨_, _, _⟩, ⟨_, _, _, HA⟩, ⟨_, _, _, HBB⟩, ⟨_, _, _, HCC⟩, HDD, hBel⟩ := hK1
          replace HA := Lib.hid HA; replace HBB := Lib.hid HBB; replace HCC := Lib.hid HCC; replace HDD := Lib.hid HDD
          go_wp2_with (fail)
          go_at_call 25
          refine (sameGate_any _ _ _ (fun b hb => hb) (fun b hb => hb) HA.out hstC.get3.rdLt).mono ?_
          rintro e w11 ⟨rfl, hb11⟩
          have hstD := hstC.call hb11
          clear hb11 x0 x1 x2 y0 y1 y2 z0 z1 z2 hstC
          obtain ⟨y0, y1, y2, _, _, _⟩ := hstD.get2.cel3
          obtain ⟨z0, z1, z2, _, _, _⟩ := hstD.cel3
          have hK1 := HK.out _ hstD.bel
          obtain ⟨⟨_, _, _⟩, ⟨_, _, _, HA⟩, ⟨_, _, _, HBB⟩, ⟨_, _, _, HCC⟩, HDD, hBel⟩ := hK1
          replace HA := Lib.hid HA; replace HBB := Lib.hid HBB; replace HCC := Lib.hid HCC; replace HDD := Lib.hid HDD
          go_wp2_with (fail)
          go_at_call 25
          refine (sameGate_any _ _ _ (fun b hb => hb) (fun b hb => hb) HBB.out (HG.out _ hBel).1).mono ?_
          rintro e w12 ⟨rfl, hb12⟩
          have hstE := hstD.call hb12
          clear hb12 y0 y1 y2 z0 z1 z2 hstD
          obtain ⟨z0, z1, z2, _, _, _⟩ := hstE.cel3
          have hK1 := HK.out _ hstE.bel
          obtain ⟨⟨_, _, _⟩, ⟨_, _, _, HA⟩, ⟨_, _, _, HBB⟩, ⟨_, _, _, HCC⟩, HDD, hBel⟩ := hK1
          replace HA := Lib.hid HA; replace HBB := Lib.hid HBB; replace HCC := Lib.hid HCC; replace HDD := Lib.hid HDD
          go_wp2_with (fail)
          go_at_call 25
          refine (sameGate_any _ _ _ (fun b hb => hb) (fun b hb => Nat.lt_of_lt_of_le hb hstE.bel.size) HCC.out (Enc.mono _ HV3.out (fun _ h => h) (fun b hb => hstE.bel.block b hb))).mono ?_
          rintro e w13 ⟨rfl, hb13⟩
          have hstF := hstE.call hb13
          clear hb13 z0 z1 z2 hstE
          have hK1 := HK.out _ hstF.bel
          obtain ⟨⟨_, _, _⟩, ⟨_, _, _, HA⟩, ⟨_, _, _, HBB⟩, ⟨_, _, _, HCC⟩, HDD, hBel⟩ := hK1
          replace HA := Lib.hid HA; replace HBB := Lib.hid HBB; replace HCC := Lib.hid HCC; replace HDD := Lib.hid HDD
          go_wp2_with (fail)
          go_at_call 19
          refine (eqEvts _ HDD.out (Enc.mono _ HV4.out (fun _ h => h) (fun b hb => hstF.bel.block b hb))).mono ?_
          rintro e w14 ⟨rfl, hb14⟩
          have hstH := hstF.call hb14
          go_wp2_with (fail)
          go_ret
          exact ⟨by simp, (HK.out _ hstH.bel).2.2.2.2.2⟩
      · obtain rfl : GE = 0 := by rw [← HGE.out, if_neg (by omega)]
        obtain rfl : SU = GC := by rw [← HGC.out, if_pos rfl]
        have hstB := (hst.get3.setCel 1 (.int .i64 SU))
        obtain ⟨x0, x1, x2, xf0, xf1, _⟩ := hst.get3.cel3
        obtain ⟨⟨_, _, _⟩, _⟩ := HK.out _ hst.bel
        clear hst
        go_upto_if 119 with (fail)
        generalize wc.setCell ⟨gb, 1, none⟩ (.int .i64 SU) = wc at hstB ⊢
        clear x0 x1 x2 xf0 xf1
        by_cases hm : m < 0
        · obtain rfl : TE = 1 := by rw [← HTE.out, if_pos hm]
          obtain rfl : TD = 0 := by rw [← HTD.out, if_neg (by decide)]
          obtain rfl : C3 = c := by rw [← HC3.out]; simp
          obtain rfl : N3 = n := by rw [← HN3.out]; simp
          have hstC := hstB.get4
          have HV3 : Hid ((Enc.two.sl 16).R (fun b => b < w8.heap.size) w8 [.slice ao l.length cap] (l.drop 0)) := Lib.hid (by rw [List.drop_zero]; exact HR8.out)
          have HV4 : Hid ((Enc.two.sl 16).R (fun b => b < w8.heap.size) w8 [.slice none 0 0] (l.take 0)) := Lib.hid ⟨none, 0, 0, 0, rfl, Nat.le_refl _, by decide, by simp, fun _ => rfl, fun h => by simp at h, fun i hi => by simp at hi⟩
          clear hstB

          obtain ⟨x0, x1, x2, _, _, _⟩ := hstC.get4.cel3
          obtain ⟨y0, y1, y2, _, _, _⟩ := hstC.get2.cel3
          obtain ⟨z0, z1, z2, _, _, _⟩ := hstC.cel3
          have hK1 := HK.out _ hstC.bel
          obtain ⟨⟨_, _, _⟩, ⟨_, _, _, HA⟩, ⟨_, _, _, HBB⟩, ⟨_, _, _, HCC⟩, HDD, hBel⟩ := hK1
          replace HA := Lib.hid HA; replace HBB := Lib.hid HBB; replace HCC := Lib.hid HCC; replace HDD := Lib.hid HDD
          go_wp2_with (fail)
          go_at_call 25
          refine (sameGate_any _ _ _ (fun b hb => hb) (fun b hb => hb) HA.out hstC.get3.rdLt).mono ?_
          rintro e w11 ⟨rfl, hb11⟩
          have hstD := hstC.call hb11
          clear hb11 x0 x1 x2 y0 y1 y2 z0 z1 z2 hstC
          obtain ⟨y0, y1, y2, _, _, _⟩ := hstD.get2.cel3
          obtain ⟨z0, z1, z2, _, _, _⟩ := hstD.cel3
          have hK1 := HK.out _ hstD.bel
          obtain ⟨⟨_, _, _⟩, ⟨_, _, _, HA⟩, ⟨_, _, _, HBB⟩, ⟨_, _, _, HCC⟩, HDD, hBel⟩ := hK1
          replace HA := Lib.hid HA; replace HBB := Lib.hid HBB; replace HCC := Lib.hid HCC; replace HDD := Lib.hid HDD
          go_wp2_with (fail)
          go_at_call 25
          refine (sameGate_any _ _ _ (fun b hb => hb) (fun b hb => hb) HBB.out (HG.out _ hBel).1).mono ?_
          rintro e w12 ⟨rfl, hb12⟩
          have hstE := hstD.call hb12
          clear hb12 y0 y1 y2 z0 z1 z2 hstD
          obtain ⟨z0, z1, z2, _, _, _⟩ := hstE.cel3
          have hK1 := HK.out _ hstE.bel
          obtain ⟨⟨_, _, _⟩, ⟨_, _, _, HA⟩, ⟨_, _, _, HBB⟩, ⟨_, _, _, HCC⟩, HDD, hBel⟩ := hK1
          replace HA := Lib.hid HA; replace HBB := Lib.hid HBB; replace HCC := Lib.hid HCC; replace HDD := Lib.hid HDD
          go_wp2_with (fail)
          go_at_call 25
          refine (sameGate_any _ _ _ (fun b hb => hb) (fun b hb => Nat.lt_of_lt_of_le hb hstE.bel.size) HCC.out (Enc.mono _ HV3.out (fun _ h => h) (fun b hb => hstE.bel.block b hb))).mono ?_
          rintro e w13 ⟨rfl, hb13⟩
          have hstF := hstE.call hb13
          clear hb13 z0 z1 z2 hstE
          have hK1 := HK.out _ hstF.bel
          obtain ⟨⟨_, _, _⟩, ⟨_, _, _, HA⟩, ⟨_, _, _, HBB⟩, ⟨_, _, _, HCC⟩, HDD, hBel⟩ := hK1
          replace HA := Lib.hid HA; replace HBB := Lib.hid HBB; replace HCC := Lib.hid HCC; replace HDD := Lib.hid HDD
          go_wp2_with (fail)
          go_at_call 19
          refine (eqEvts _ HDD.out (Enc.mono _ HV4.out (fun _ h => h) (fun b hb => hstF.bel.block b hb))).mono ?_
          rintro e w14 ⟨rfl, hb14⟩
          have hstH := hstF.call hb14
          go_wp2_with (fail)
          go_ret
          exact ⟨by simp, (HK.out _ hstH.bel).2.2.2.2.2⟩
        · obtain rfl : TE = 0 := by rw [← HTE.out, if_neg hm]
          have hTD := HTD.out
          rw [if_pos rfl] at hTD
          have hN := Gt.cut_in (m := m) (c := c) (n := l.length) (by omega) q2
          have hmin := fun (W : World) ts t => run_min_int3 (P := Try.prog) (w := W) ts t .i64 .i64 .i64 m c (l.length : Int)
          have hcd : (if (l.length : Int) < (if c < m then c else m) then (l.length : Int) else (if c < m then c else m)) = TD := by rw [← hTD]; have := hN.1; rw [Int.toNat_of_nonneg this]; unfold Gt.cut; rfl
          rw [hcd] at hmin
          have hN1 : TD ≤ l.length := by omega
          have hN2 : (TD : Int) ≤ c := by omega
          clear hcd hTD hN
          obtain rfl : C3 = c - (TD : Int) := HC3.out.symm
          obtain rfl : N3 = n + (TD : Int) := HN3.out.symm
          have hv1 : (Enc.two.sl 16).R (fun b => b < w8.heap.size) w8 [Go.sliced ao 0 TD cap 2] ((l.take TD).drop 0) := Enc.sliced HR8.out 0 TD (by omega) (by omega)
          have hv2 : (Enc.two.sl 16).R (fun b => b < w8.heap.size) w8 [Go.sliced ao TD l.length cap 2] ((l.take l.length).drop TD) := Enc.sliced HR8.out TD l.length (by omega) (Nat.le_refl _)
          rw [List.drop_zero] at hv1
          rw [List.take_of_length_le (Nat.le_refl l.length)] at hv2
          have hs1 : ∀ W, (Instr.slice 32 (.slice ao l.length cap) none (some (.int .i64 (TD : Int))) none).run Try.prog W = .ok (Go.sliced ao 0 TD cap 2) W := fun W => by
            have hsz : (sizeOf (Try.prog.elem 32)).run Try.prog W = .ok 2 W := by kernel_rfl
            rw [run_slice_h W 32 ao l.length cap (by kernel_rfl) .i64 TD (by omega) (by omega), hsz]; rfl
          have hs2 : ∀ W, (Instr.slice 32 (.slice ao l.length cap) (some (.int .i64 (TD : Int))) none none).run Try.prog W = .ok (Go.sliced ao TD l.length cap 2) W := fun W => by
            have hsz : (sizeOf (Try.prog.elem 32)).run Try.prog W = .ok 2 W := by kernel_rfl
            rw [run_slice_l W 32 ao l.length cap (by kernel_rfl) .i64 TD (by omega) (by omega), hsz]; rfl
          obtain ⟨as2, ns2, cs2, hsl2⟩ : ∃ a n c, Go.sliced ao TD l.length cap 2 = .slice a n c := by
            obtain ⟨_, _, _, _, hq, _⟩ := hv2
            simp only [List.cons.injEq, and_true] at hq
            exact ⟨_, _, _, hq⟩
          rw [hsl2] at hs2 hv2
          generalize Go.sliced ao 0 TD cap 2 = V1 at hs1 hv1
          have HV3 := Lib.hid hv2; have HV4 := Lib.hid hv1
          clear hsl2 hv1 hv2
          obtain ⟨⟨_, _, _⟩, _⟩ := HK.out _ hstB.bel
          go_wp2_with (fail)
          go_still_tail 13, (by kernel_rfl)
          change wpList _ _ _ _ _ wc.drew
          obtain ⟨x0, x1, x2, xf0, xf1, xf2⟩ := hstB.drew.get4.cel3
          have hstC := ((hstB.drew.get4.setCel 0 (.slice as2 ns2 cs2)).setCel 1 (.int .i64 (c - (TD : Int)))).setCel 2 (.int .i64 (n + (TD : Int)))
          generalize wc.drew = wd at *
          obtain ⟨x0, x1, x2, _, _, _⟩ := hstC.get4.cel3
          obtain ⟨y0, y1, y2, _, _, _⟩ := hstC.get2.cel3
          obtain ⟨z0, z1, z2, _, _, _⟩ := hstC.cel3
          have hK1 := HK.out _ hstC.bel
          obtain ⟨⟨_, _, _⟩, ⟨_, _, _, HA⟩, ⟨_, _, _, HBB⟩, ⟨_, _, _, HCC⟩, HDD, hBel⟩ := hK1
          replace HA := Lib.hid HA; replace HBB := Lib.hid HBB; replace HCC := Lib.hid HCC; replace HDD := Lib.hid HDD
          go_wp2_with (fail)
          go_at_call 25
          refine (sameGate_any _ _ _ (fun b hb => hb) (fun b hb => hb) HA.out hstC.get3.rdLt).mono ?_
          rintro e w11 ⟨rfl, hb11⟩
          have hstD := hstC.call hb11
          clear hb11 x0 x1 x2 y0 y1 y2 z0 z1 z2 hstC
          obtain ⟨y0, y1, y2, _, _, _⟩ := hstD.get2.cel3
          obtain ⟨z0, z1, z2, _, _, _⟩ := hstD.cel3
          have hK1 := HK.out _ hstD.bel
          obtain ⟨⟨_, _, _⟩, ⟨_, _, _, HA⟩, ⟨_, _, _, HBB⟩, ⟨_, _, _, HCC⟩, HDD, hBel⟩ := hK1
          replace HA := Lib.hid HA; replace HBB := Lib.hid HBB; replace HCC := Lib.hid HCC; replace HDD := Lib.hid HDD
          go_wp2_with (fail)
          go_at_call 25
          refine (sameGate_any _ _ _ (fun b hb => hb) (fun b hb => hb) HBB.out (HG.out _ hBel).1).mono ?_
          rintro e w12 ⟨rfl, hb12⟩
          have hstE := hstD.call hb12
          clear hb12 y0 y1 y2 z0 z1 z2 hstD
          obtain ⟨z0, z1, z2, _, _, _⟩ := hstE.cel3
          have hK1 := HK.out _ hstE.bel
          obtain ⟨⟨_, _, _⟩, ⟨_, _, _, HA⟩, ⟨_, _, _, HBB⟩, ⟨_, _, _, HCC⟩, HDD, hBel⟩ := hK1
          replace HA := Lib.hid HA; replace HBB := Lib.hid HBB; replace HCC := Lib.hid HCC; replace HDD := Lib.hid HDD
          go_wp2_with (fail)
          go_at_call 25
          refine (sameGate_any _ _ _ (fun b hb => hb) (fun b hb => Nat.lt_of_lt_of_le hb hstE.bel.size) HCC.out (Enc.mono _ HV3.out (fun _ h => h) (fun b hb => hstE.bel.block b hb))).mono ?_
          rintro e w13 ⟨rfl, hb13⟩
          have hstF := hstE.call hb13
          clear hb13 z0 z1 z2 hstE
          have hK1 := HK.out _ hstF.bel
          obtain ⟨⟨_, _, _⟩, ⟨_, _, _, HA⟩, ⟨_, _, _, HBB⟩, ⟨_, _, _, HCC⟩, HDD, hBel⟩ := hK1
          replace HA := Lib.hid HA; replace HBB := Lib.hid HBB; replace HCC := Lib.hid HCC; replace HDD := Lib.hid HDD
          go_wp2_with (fail)
          go_at_call 19
          refine (eqEvts _ HDD.out (Enc.mono _ HV4.out (fun _ h => h) (fun b hb => hstF.bel.block b hb))).mono ?_
          rintro e w14 ⟨rfl, hb14⟩
          have hstH := hstF.call hb14
          go_wp2_with (fail)
          go_ret
          exact ⟨by simp, (HK.out _ hstH.bel).2.2.2.2.2⟩

theorem gateSays_walk {v v2 : Value} {l l2 : List (Int × Int)} (c n k m : Int) (hk0 : -9223372036854775808 ≤ k) (hk1 : k ≤ 9223372036854775807) (hm0 : -9223372036854775808 ≤ m) (hm1 : m ≤ 9223372036854775807) (w : World) {F : Nat → Prop} (hF : ∀ b, F b → b < w.heap.size)
    (h : (Enc.two.sl 16).R F w [v] l) (h2 : (Enc.two.sl 16).R F w [v2] l2) :
    Calls Try.prog 5 #[.agg #[v, .int .i64 c, .int .i64 n], v2, .int .i64 k, .int .i64 m] w (fun e w' => e = .returned (.bool true) ∧ Below w.heap.size w w') := by
  by_cases he : Gt.err l c n = 0
  · exact gateSays_ok c n k m hk0 hk1 hm0 hm1 w hF h h2 he
  · exact gateSays_bad c n k m hk0 hk1 hm0 hm1 w hF h h2 he
end Go.Proofs.Ytkgpipokfoadiaa
