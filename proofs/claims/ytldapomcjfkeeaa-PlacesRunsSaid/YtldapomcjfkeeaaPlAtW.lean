/-
  At of the reference: the walk.
-/
import Derived.Test.YtldapomcjfkeeaaPlAt
namespace Go.Proofs.Ytldapomcjfkeeaa
set_option linter.unusedVariables false
open Go.ChangeShapes Go.WideShapes Go.ChangeAt Go.RowKit

theorem St.emptyI {w0 w : World} {μ : List Asrt} (h : St w0 w μ) (T : TypeId) (size : Nat) : St w0 (w.alloc (.cells #[] T)) (aOwn T size (.slice (some ⟨w.heap.size, 0, none⟩) 0 0) [] :: μ) := by
  refine h.push ((Below.refl _ _).alloc (Nat.le_refl _) _) ⟨by simp [cellsOf], .inr ⟨w.heap.size, 0, #[], rfl, Nat.zero_le _, heap_alloc_new _ _, Nat.le_refl _, Nat.zero_le _, by simp, by simp [cellsOf]⟩⟩ (fun b hb => ?_) (by simp [aOwn, Value.ownBlock])
  simp [aOwn, Value.ownBlock] at hb
  subst hb
  simp
namespace Pl
def mayN (fo : List (List Int)) (now : List Int) (y : Nat) (m : Bool) (j : Nat) : Bool := m || (now.take j).any (fun k => (fo.getD k.toNat []).contains (y : Int))
theorem mayN_zero {fo now y m} : mayN fo now y m 0 = m := by simp [mayN]
theorem mayN_true {fo now y m j} (h : mayN fo now y m j = true) : mayN fo now y m (j + 1) = true := by
  unfold mayN at *
  cases m
  · simp only [Bool.false_or, List.any_eq_true] at *
    obtain ⟨x, hx, h2⟩ := h
    exact ⟨x, List.mem_of_mem_take (show x ∈ (now.take (j + 1)).take j by rw [List.take_take, Nat.min_eq_left (by omega)]; exact hx), h2⟩
  · rfl
theorem mayN_false {fo : List (List Int)} {now : List Int} {y : Nat} {m : Bool} {j : Nat} (hj : j < now.length) (h : mayN fo now y m j = false) : mayN fo now y m (j + 1) = (fo.getD (now.getD j 0).toNat []).contains (y : Int) := by
  unfold mayN at *
  rw [List.take_succ_eq_append_getElem hj, List.any_append, ← Bool.or_assoc, h]
  simp [List.getD, List.getElem?_eq_getElem hj]
theorem mayN_all {fo fi now y first} : mayN fo now y (first && fi.contains (y : Int)) now.length = may fo fi now first y := by
  unfold mayN may; rw [List.take_length]
def tells (cl fo : List (List Int)) (fi now : List Int) (first : Bool) (b : Nat) : List Bool := (List.range cl.length).map (fun y => may fo fi now first y && has (cl.getD y []) b)
theorem tells_get {cl fo fi now first b} {y : Nat} (h : y < cl.length) : (tells cl fo fi now first b).getD y false = (may fo fi now first y && has (cl.getD y []) b) := by
  unfold tells; simp [List.getD, h]
theorem tells_ref {cl fo fi now first b} : idx (tells cl fo fi now first b) cl.length = refStep cl fo fi now first b := rfl
attribute [irreducible] mayN tells
end Pl

set_option maxRecDepth 100000 in
set_option maxHeartbeats 16000000 in
theorem plAt_any (vc vr vi vo vl ve : Value) (cl : List (List Int)) (ru fi : List Int) (fo : List (List Int)) (la em : List Bool) (s : ByteArray) (hs : s.size ≤ 200) (w : World) (F : Nat → Prop) (hF : ∀ b, F b → b < w.heap.size) (h1 : ((Enc.row .u64 4).sl 32).R F w [vc] cl) (h3 : ((Enc.int .i64).sl 8).R F w [vi] fi)
    (h4 : (((Enc.int .i64).sl 8).sl 24).R F w [vo] fo) (hE : Pl.err cl.length ru fi fo la.length em.length = 0) :
    Calls Try.prog 28 #[.agg #[vc, vr, vi, vo, vl, ve], .string s] w fun e w' => ∃ v, e = .returned v ∧ Own w' w.heap.size 3 1 v ((Pl.run cl fo fi s s.size).map (Value.int .i64)) ∧ Below w.heap.size w w' := by
  obtain ⟨hcl, hfi, hfl, hfo, -, -, -, -, -⟩ := Pl.err_parts hE
  have HCF := Lib.hid (fun (W : World) (hW : Below w.heap.size w W) (x : Int) => containsI_any x fi vi W F (Enc.mono _ h3 (fun _ h => h) (fun b hb => hW.block b (hF b hb))))
  have HCO := Lib.hid (fun (W : World) (hW : Below w.heap.size w W) (x : Int) (l : List Int) (v : Value) (hl : ((Enc.int .i64).sl 8).R F w [v] l) => containsI_any x l v W F (Enc.mono _ hl (fun _ h => h) (fun b hb => hW.block b (hF b hb))))
  obtain ⟨ac, bc, oc, cc, rfl, -, k3, k4⟩ := slCls h1
  obtain ⟨ai, _, _, ci, rfl, -⟩ := slInt h3
  obtain ⟨ao, bo, oo, co, rfl, f3, f4⟩ := slRowsI h4
  have K3 := Lib.hid k3; have K4 := Lib.hid k4; have F3 := Lib.hid f3; have F4 := Lib.hid f4; have HFL := Lib.hid hfl
  have hst := (St.init w).alloc #[.slice ac cl.length cc, vr, .slice ai fi.length ci, .slice ao fo.length co, vl, ve] 56
  have hst1 := hst.emptyI 3 1
  simp only [World.size_alloc] at hst1
  have HST := Lib.hid hst1
  clear hst1
  have hsz : (s.size : Int) ≤ 200 := by omega
  have hcl2 : (cl.length : Int) ≤ 200 := by omega
  clear h1 h3 h4 hF k3 k4 f3 f4 hE hst hfl hfi hfo
  go_enter Try.func28, Try.ntmps28
  go_wp2
  go_loopw [5, 6] (fun v i wr => ∃ k : Nat, k ≤ s.size ∧ i = .int .i64 k ∧ St w wr [aOwn 3 1 v ((Pl.run cl fo fi s k).map (Value.int .i64)), aCel w.heap.size 56 #[.slice ac cl.length cc, vr, .slice ai fi.length ci, .slice ao fo.length co, vl, ve]]) (fun _ i _ => s.size - (intOf i).toNat)
  case atStart => exact ⟨0, by omega, rfl, by rw [Pl.run_zero]; exact HST.out⟩
  case round =>
    clear HST
    obtain ⟨k, hk, rfl, hst⟩ := hrel
    by_cases hlt : k < s.size
    · have hnext : Pl.run cl fo fi s (k + 1) = Pl.idx (Pl.tells cl fo fi (Pl.run cl fo fi s k) (decide (k = 0)) s[k].toNat) cl.length := by
        rw [Pl.tells_ref, Pl.run_succ, show s.data.toList.getD k 0 = s[k] by simp [List.getD, hlt]; rfl]
      have HNEXT := Lib.hid hnext
      have hrl := Pl.run_len (cl := cl) (fo := fo) (fi := fi) (s := s) (k := k)
      have hrm := Pl.run_mem (cl := cl) (fo := fo) (fi := fi) (s := s) (k := k)
      generalize Pl.run cl fo fi s k = now at *
      have HRM := Lib.hid hrm
      obtain ⟨an, cn, hvn⟩ := hst.own.isLen
      rw [List.length_map] at hvn
      subst hvn
      have HST := Lib.hid ((hst.nilOwn 3 1))
      have hlt2 : (k : Int) < s.size := by omega
      obtain ⟨M, hM⟩ : ∃ M, Pl.tells cl fo fi now (decide (k = 0)) s[k].toNat = M := ⟨_, rfl⟩
      have HM := Lib.hid hM
      rw [hM] at HNEXT
      clear hst hnext hrm hM
      go_wp2
      go_loopw [7, 8, 9, 10] (fun v x _ _ wr => ∃ y : Nat, y ≤ cl.length ∧ x = .int .i64 y ∧ St w wr [aOwn 3 1 v ((Pl.idx M y).map (Value.int .i64)), aOwn 3 1 (.slice an now.length cn) (now.map (Value.int .i64)), aCel w.heap.size 56 #[.slice ac cl.length cc, vr, .slice ai fi.length ci, .slice ao fo.length co, vl, ve]]) (fun _ x _ _ _ => cl.length - (intOf x).toNat)
      case atStart => exact ⟨0, by omega, rfl, by rw [Pl.idx_nil]; exact HST.out⟩
      case round =>
        clear HST
        obtain ⟨y, hy, rfl, hst⟩ := hrel
        by_cases hyl : y < cl.length
        · have HST := Lib.hid hst
          obtain ⟨x0, x1, x2, x3, x4, x5⟩ := hst.at6 2 rfl
          have hyl2 : (y : Int) < cl.length := by omega
          have hcf := HCF.out wr hst.bel (y : Int)
          have hmall := Pl.mayN_all (fo := fo) (fi := fi) (now := now) (y := y) (first := decide (k = 0))
          obtain ⟨C, hC⟩ : ∃ C, fi.contains (y : Int) = C := ⟨_, rfl⟩
          rw [hC] at hcf hmall
          have HCC := Lib.hid hcf
          have hget := Pl.tells_get (cl := cl) (fo := fo) (fi := fi) (now := now) (first := decide (k = 0)) (b := s[k].toNat) hyl
          rw [HM.out, ← hmall] at hget
          have HGET := Lib.hid hget
          have hil := Pl.idx_len (I := M) (k := y)
          clear hst hcf hC hget hmall
          by_cases hk0 : k = 0
          · have hkb : ((k : Int) == 0) = true := by rw [beq_iff_eq]; omega
            have hkd : decide (k = 0) = true := decide_eq_true hk0
            rw [hkd, Bool.true_and] at HGET
            clear hk0 hkd
            go_wp2_with (fail)
            go_at_call 86
            refine HCC.out.mono ?_
            rintro e w2 ⟨rfl, rfl⟩
            clear HCC
            go_wp2
            clear x0 x1 x2 x3 x4 x5
            go_loopw [9, 10] (fun m j wr => ∃ q : Nat, q ≤ now.length ∧ j = .int .i64 q ∧ m = .bool (Pl.mayN fo now y C q) ∧ St w wr [aOwn 3 1 u7 ((Pl.idx M y).map (Value.int .i64)), aOwn 3 1 (.slice an now.length cn) (now.map (Value.int .i64)), aCel w.heap.size 56 #[.slice ac cl.length cc, vr, .slice ai fi.length ci, .slice ao fo.length co, vl, ve]]) (fun _ j _ => now.length - (intOf j).toNat)
            case atStart => exact ⟨0, by omega, rfl, by rw [Pl.mayN_zero], HST.out⟩
            case round =>
              clear HST
              obtain ⟨q, hq, rfl, rfl, hst⟩ := hrel
              obtain ⟨x0, x1, x2, x3, x4, x5⟩ := hst.at6 2 rfl
              by_cases hql : q < now.length
              · have hql2 : (q : Int) < now.length := by omega
                cases hv : Pl.mayN fo now y C q
                · have hmx := HRM.out (now.getD q 0) (by rw [show now.getD q 0 = now[q] by simp [List.getD, List.getElem?_eq_getElem hql]]; exact List.getElem_mem hql)
                  have hstep := Pl.mayN_false hql hv
                  obtain ⟨x, hx⟩ : ∃ x : Nat, now.getD q 0 = x := Int.eq_ofNat_of_zero_le hmx.1
                  rw [hx] at hmx hstep
                  rw [Int.toNat_natCast] at hstep
                  rcases (hst.ownAt 1 rfl).shape with ⟨_, he⟩ | ⟨gn, cn2, hvn, _, _⟩
                  · rw [List.map_eq_nil_iff] at he; rw [he] at hql; simp at hql
                  simp only [Value.slice.injEq] at hvn
                  obtain ⟨rfl, -, rfl⟩ := hvn
                  have n1 := ((hst.nth 1 rfl).cellOwn (f := Value.int .i64) (fun _ => rfl) q hql 0).1
                  rw [hx] at n1
                  have hxf : x < fo.length := by have := HFL.out; omega
                  obtain ⟨rfl, _, _⟩ := F3.out (by omega)
                  obtain ⟨a8, c8, e1, e2⟩ := F4.out x hxf
                  have e1 := bkeep hst.bel e1
                  have hcon := fun m => HCO.out (wr.drewN m) (hst.drewN m).bel (y : Int) _ _ e2
                  obtain ⟨D, hD⟩ : ∃ D, (fo.getD x []).contains (y : Int) = D := ⟨_, rfl⟩
                  simp only [hD] at hcon
                  rw [hD] at hstep
                  generalize (fo.getD x []).length = fl at *
                  have HC := Lib.hid hcon
                  have HSTEP := Lib.hid hstep
                  have HST := Lib.hid hst
                  have hx0 : (0 : Int) ≤ (x : Int) := by omega
                  have hxf2 : (x : Int) < fo.length := by omega
                  clear e2 hcon hD hstep hst hx hv
                  go_wp2
                  go_quiet ((go_at_call 86; exact Calls.quiet_of_same (HC.out _)))
                  clear n1 e1 x0 x1 x2 x3 x4 x5
                  go_wp2
                  go_roundw
                  case rel => exact ⟨q + 1, by omega, by go_num, by rw [HSTEP.out], HST.out.drewN _⟩
                  case measure => simp [intOf]; omega
                · have HSTEP := Lib.hid (Pl.mayN_true hv)
                  have HST := Lib.hid hst
                  clear hst hv
                  go_wp2
                  go_quiet (fail)
                  clear x0 x1 x2 x3 x4 x5
                  go_wp2
                  go_roundw
                  case rel => exact ⟨q + 1, by omega, by go_num, by rw [HSTEP.out], HST.out.drewN _⟩
                  case measure => simp [intOf]; omega
              · obtain rfl : q = now.length := by omega
                have hidx := Pl.idx_step (I := M) (k := y)
                rw [HGET.out] at hidx
                cases hv : Pl.mayN fo now y C now.length
                · rw [hv] at hidx
                  simp only [Bool.false_and, Bool.false_eq_true, if_false, List.append_nil] at hidx
                  have HIDX := Lib.hid hidx
                  have HST := Lib.hid hst
                  obtain ⟨av, cv, hv7⟩ := hst.own.isLen
                  subst hv7
                  clear hst hv hidx
                  go_wp2
                  go_quiet (fail)
                  clear x0 x1 x2 x3 x4 x5
                  go_wp2
                  go_roundw
                  case rel => exact ⟨y + 1, by omega, by go_num, by rw [HIDX.out]; exact HST.out.drewN _⟩
                  case measure => simp [intOf]; omega
                · rw [hv, Bool.true_and] at hidx
                  obtain ⟨rfl, _, _⟩ := K3.out (by omega)
                  obtain ⟨e1, e2, e3⟩ := K4.out y hyl
                  obtain ⟨q0, q1, q2, q3, hqq⟩ := four e2
                  have hb256 := s[k].toNat_lt
                  have hc := rHas_any #[.int .u64 q0, .int .u64 q1, .int .u64 q2, .int .u64 q3] (cl.getD y []) s[k].toNat (by omega)
                  rw [hqq] at hc e1 e3 hidx
                  have HC := Lib.hid (fun (W : World) => hc W rfl rfl e3)
                  obtain ⟨B, hB⟩ : ∃ B, Pl.has [q0, q1, q2, q3] s[k].toNat = B := ⟨_, rfl⟩
                  rw [hB] at HC hidx
                  have d0 := bkeep hst.bel (e1 0 (by omega))
                  have d1 := bkeep hst.bel (e1 1 (by omega))
                  have d2 := bkeep hst.bel (e1 2 (by omega))
                  have d3 := bkeep hst.bel (e1 3 (by omega))
                  rw [Nat.add_zero] at d0
                  replace d0 : wr.cell? ⟨bc, oc + y * 4, none⟩ = some (.int .u64 q0) := d0
                  replace d1 : wr.cell? ⟨bc, oc + y * 4 + 1, none⟩ = some (.int .u64 q1) := d1
                  replace d2 : wr.cell? ⟨bc, oc + y * 4 + 2, none⟩ = some (.int .u64 q2) := d2
                  replace d3 : wr.cell? ⟨bc, oc + y * 4 + 3, none⟩ = some (.int .u64 q3) := d3
                  obtain ⟨av, cv, hv7⟩ := hst.own.isLen
                  rw [List.length_map] at hv7
                  subst hv7
                  have HST := Lib.hid hst.drew
                  cases B
                  · simp only [Bool.false_eq_true, if_false, List.append_nil] at hidx
                    have HIDX := Lib.hid hidx
                    clear hst hv hidx e1 e2 e3 hqq hc hB
                    have hwr : IntKind.i64.wrap (s[k].toNat : Int) = (s[k].toNat : Int) := IntWalk.i64_in _ (by omega)
                    go_wp2
                    go_region_with ((go_at_call 87; refine (HC.out _).mono ?_; rintro e w2 ⟨rfl, hb2⟩))
                    all_goals
                      have hst2 := HST.out.call hb2
                      clear hwr d0 d1 d2 d3 x0 x1 x2 x3 x4 x5 hb2
                      go_wp2
                      go_roundw
                      case rel => exact ⟨y + 1, by omega, by go_num, by rw [HIDX.out]; exact hst2⟩
                      case measure => simp [intOf]; omega
                  · simp only [if_true] at hidx
                    have HIDX := Lib.hid hidx
                    have hll : ((Pl.idx M y).map (Value.int .i64)).length ≤ 200 := by rw [List.length_map]; omega
                    clear hst hv hidx e1 e2 e3 hqq hc hB
                    have hwr : IntKind.i64.wrap (s[k].toNat : Int) = (s[k].toNat : Int) := IntWalk.i64_in _ (by omega)
                    go_wp2
                    go_region_with ((go_at_call 87; refine (HC.out _).mono ?_; rintro e w2 ⟨rfl, hb2⟩))
                    all_goals
                      have HST2 := Lib.hid (HST.out.call hb2)
                      clear hwr d0 d1 d2 d3 x0 x1 x2 x3 x4 x5 hb2
                      go_wp2_with (at_builtin; refine St.app1n intE rfl (.tmp 65) (.tmp 67) rfl rfl HST2.out (.int .i64 (y : Int)) rfl _ 1 rfl (by simp) rfl (int_one4 _) (by unfold maxLen; omega) (by omega) ?_; intro g5 n5 c5 w5 hst5)
                      go_roundw
                      case rel => exact ⟨y + 1, by omega, by go_num, by rw [HIDX.out, List.map_append]; exact hst5⟩
                      case measure => simp [intOf]; omega
          · have hkb : ((k : Int) == 0) = false := by rw [beq_eq_false_iff_ne]; omega
            have hkd : decide (k = 0) = false := decide_eq_false hk0
            rw [hkd, Bool.false_and] at HGET
            clear hk0 hkd HCC
            go_wp2
            clear x0 x1 x2 x3 x4 x5
            go_loopw [9, 10] (fun m j wr => ∃ q : Nat, q ≤ now.length ∧ j = .int .i64 q ∧ m = .bool (Pl.mayN fo now y false q) ∧ St w wr [aOwn 3 1 u7 ((Pl.idx M y).map (Value.int .i64)), aOwn 3 1 (.slice an now.length cn) (now.map (Value.int .i64)), aCel w.heap.size 56 #[.slice ac cl.length cc, vr, .slice ai fi.length ci, .slice ao fo.length co, vl, ve]]) (fun _ j _ => now.length - (intOf j).toNat)
            case atStart => exact ⟨0, by omega, rfl, by rw [Pl.mayN_zero], HST.out⟩
            case round =>
              clear HST
              obtain ⟨q, hq, rfl, rfl, hst⟩ := hrel
              obtain ⟨x0, x1, x2, x3, x4, x5⟩ := hst.at6 2 rfl
              by_cases hql : q < now.length
              · have hql2 : (q : Int) < now.length := by omega
                cases hv : Pl.mayN fo now y false q
                · have hmx := HRM.out (now.getD q 0) (by rw [show now.getD q 0 = now[q] by simp [List.getD, List.getElem?_eq_getElem hql]]; exact List.getElem_mem hql)
                  have hstep := Pl.mayN_false hql hv
                  obtain ⟨x, hx⟩ : ∃ x : Nat, now.getD q 0 = x := Int.eq_ofNat_of_zero_le hmx.1
                  rw [hx] at hmx hstep
                  rw [Int.toNat_natCast] at hstep
                  rcases (hst.ownAt 1 rfl).shape with ⟨_, he⟩ | ⟨gn, cn2, hvn, _, _⟩
                  · rw [List.map_eq_nil_iff] at he; rw [he] at hql; simp at hql
                  simp only [Value.slice.injEq] at hvn
                  obtain ⟨rfl, -, rfl⟩ := hvn
                  have n1 := ((hst.nth 1 rfl).cellOwn (f := Value.int .i64) (fun _ => rfl) q hql 0).1
                  rw [hx] at n1
                  have hxf : x < fo.length := by have := HFL.out; omega
                  obtain ⟨rfl, _, _⟩ := F3.out (by omega)
                  obtain ⟨a8, c8, e1, e2⟩ := F4.out x hxf
                  have e1 := bkeep hst.bel e1
                  have hcon := fun m => HCO.out (wr.drewN m) (hst.drewN m).bel (y : Int) _ _ e2
                  obtain ⟨D, hD⟩ : ∃ D, (fo.getD x []).contains (y : Int) = D := ⟨_, rfl⟩
                  simp only [hD] at hcon
                  rw [hD] at hstep
                  generalize (fo.getD x []).length = fl at *
                  have HC := Lib.hid hcon
                  have HSTEP := Lib.hid hstep
                  have HST := Lib.hid hst
                  have hx0 : (0 : Int) ≤ (x : Int) := by omega
                  have hxf2 : (x : Int) < fo.length := by omega
                  clear e2 hcon hD hstep hst hx hv
                  go_wp2
                  go_quiet ((go_at_call 86; exact Calls.quiet_of_same (HC.out _)))
                  clear n1 e1 x0 x1 x2 x3 x4 x5
                  go_wp2
                  go_roundw
                  case rel => exact ⟨q + 1, by omega, by go_num, by rw [HSTEP.out], HST.out.drewN _⟩
                  case measure => simp [intOf]; omega
                · have HSTEP := Lib.hid (Pl.mayN_true hv)
                  have HST := Lib.hid hst
                  clear hst hv
                  go_wp2
                  go_quiet (fail)
                  clear x0 x1 x2 x3 x4 x5
                  go_wp2
                  go_roundw
                  case rel => exact ⟨q + 1, by omega, by go_num, by rw [HSTEP.out], HST.out.drewN _⟩
                  case measure => simp [intOf]; omega
              · obtain rfl : q = now.length := by omega
                have hidx := Pl.idx_step (I := M) (k := y)
                rw [HGET.out] at hidx
                cases hv : Pl.mayN fo now y false now.length
                · rw [hv] at hidx
                  simp only [Bool.false_and, Bool.false_eq_true, if_false, List.append_nil] at hidx
                  have HIDX := Lib.hid hidx
                  have HST := Lib.hid hst
                  obtain ⟨av, cv, hv7⟩ := hst.own.isLen
                  subst hv7
                  clear hst hv hidx
                  go_wp2
                  go_quiet (fail)
                  clear x0 x1 x2 x3 x4 x5
                  go_wp2
                  go_roundw
                  case rel => exact ⟨y + 1, by omega, by go_num, by rw [HIDX.out]; exact HST.out.drewN _⟩
                  case measure => simp [intOf]; omega
                · rw [hv, Bool.true_and] at hidx
                  obtain ⟨rfl, _, _⟩ := K3.out (by omega)
                  obtain ⟨e1, e2, e3⟩ := K4.out y hyl
                  obtain ⟨q0, q1, q2, q3, hqq⟩ := four e2
                  have hb256 := s[k].toNat_lt
                  have hc := rHas_any #[.int .u64 q0, .int .u64 q1, .int .u64 q2, .int .u64 q3] (cl.getD y []) s[k].toNat (by omega)
                  rw [hqq] at hc e1 e3 hidx
                  have HC := Lib.hid (fun (W : World) => hc W rfl rfl e3)
                  obtain ⟨B, hB⟩ : ∃ B, Pl.has [q0, q1, q2, q3] s[k].toNat = B := ⟨_, rfl⟩
                  rw [hB] at HC hidx
                  have d0 := bkeep hst.bel (e1 0 (by omega))
                  have d1 := bkeep hst.bel (e1 1 (by omega))
                  have d2 := bkeep hst.bel (e1 2 (by omega))
                  have d3 := bkeep hst.bel (e1 3 (by omega))
                  rw [Nat.add_zero] at d0
                  replace d0 : wr.cell? ⟨bc, oc + y * 4, none⟩ = some (.int .u64 q0) := d0
                  replace d1 : wr.cell? ⟨bc, oc + y * 4 + 1, none⟩ = some (.int .u64 q1) := d1
                  replace d2 : wr.cell? ⟨bc, oc + y * 4 + 2, none⟩ = some (.int .u64 q2) := d2
                  replace d3 : wr.cell? ⟨bc, oc + y * 4 + 3, none⟩ = some (.int .u64 q3) := d3
                  obtain ⟨av, cv, hv7⟩ := hst.own.isLen
                  rw [List.length_map] at hv7
                  subst hv7
                  have HST := Lib.hid hst.drew
                  cases B
                  · simp only [Bool.false_eq_true, if_false, List.append_nil] at hidx
                    have HIDX := Lib.hid hidx
                    clear hst hv hidx e1 e2 e3 hqq hc hB
                    have hwr : IntKind.i64.wrap (s[k].toNat : Int) = (s[k].toNat : Int) := IntWalk.i64_in _ (by omega)
                    go_wp2
                    go_region_with ((go_at_call 87; refine (HC.out _).mono ?_; rintro e w2 ⟨rfl, hb2⟩))
                    all_goals
                      have hst2 := HST.out.call hb2
                      clear hwr d0 d1 d2 d3 x0 x1 x2 x3 x4 x5 hb2
                      go_wp2
                      go_roundw
                      case rel => exact ⟨y + 1, by omega, by go_num, by rw [HIDX.out]; exact hst2⟩
                      case measure => simp [intOf]; omega
                  · simp only [if_true] at hidx
                    have HIDX := Lib.hid hidx
                    have hll : ((Pl.idx M y).map (Value.int .i64)).length ≤ 200 := by rw [List.length_map]; omega
                    clear hst hv hidx e1 e2 e3 hqq hc hB
                    have hwr : IntKind.i64.wrap (s[k].toNat : Int) = (s[k].toNat : Int) := IntWalk.i64_in _ (by omega)
                    go_wp2
                    go_region_with ((go_at_call 87; refine (HC.out _).mono ?_; rintro e w2 ⟨rfl, hb2⟩))
                    all_goals
                      have HST2 := Lib.hid (HST.out.call hb2)
                      clear hwr d0 d1 d2 d3 x0 x1 x2 x3 x4 x5 hb2
                      go_wp2_with (at_builtin; refine St.app1n intE rfl (.tmp 65) (.tmp 67) rfl rfl HST2.out (.int .i64 (y : Int)) rfl _ 1 rfl (by simp) rfl (int_one4 _) (by unfold maxLen; omega) (by omega) ?_; intro g5 n5 c5 w5 hst5)
                      go_roundw
                      case rel => exact ⟨y + 1, by omega, by go_num, by rw [HIDX.out, List.map_append]; exact hst5⟩
                      case measure => simp [intOf]; omega
        · obtain rfl : y = cl.length := by omega
          rw [← HNEXT.out] at hst
          obtain ⟨x0, x1, x2, x3, x4, x5⟩ := hst.at6 2 rfl
          obtain ⟨av, cv, hv⟩ := hst.own.isLen
          subst hv
          have HST := Lib.hid (hst.get2.drop)
          clear hst
          go_wp2
          go_roundw
          case rel => exact ⟨k + 1, by omega, by go_num, HST.out⟩
          case measure => simp [intOf]; omega
    · obtain rfl : k = s.size := by omega
      have HST := Lib.hid hst
      clear hst
      go_wp2
      go_ret
      exact ⟨_, rfl, HST.out.own, HST.out.bel⟩
end Go.Proofs.Ytldapomcjfkeeaa
