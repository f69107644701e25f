/-
  Done of the reference: rules that are done behind a text.
-/
import Derived.Test.YtldapomcjfkeeaaRulesW
import Derived.Test.YtldapomcjfkeeaaPlAtW
namespace Go.Proofs.Ytldapomcjfkeeaa
set_option linter.unusedVariables false
open Go.ChangeShapes Go.WideShapes Go.ChangeAt Go.RowKit

namespace Pl
def anyN (p : Int → Bool) (now : List Int) (m : Bool) (j : Nat) : Bool := m || (now.take j).any p
theorem anyN_zero {p now m} : anyN p now m 0 = m := by simp [anyN]
theorem anyN_step {p : Int → Bool} {now : List Int} {m : Bool} {j : Nat} (hj : j < now.length) : anyN p now m (j + 1) = (anyN p now m j || p (now.getD j 0)) := by
  unfold anyN
  rw [List.take_succ_eq_append_getElem hj, List.any_append, ← Bool.or_assoc]
  simp [List.getD, List.getElem?_eq_getElem hj]
theorem anyN_all {p : Int → Bool} {now : List Int} {m : Bool} : anyN p now m now.length = (m || now.any p) := by unfold anyN; rw [List.take_length]
def pred (ru : List Int) (la : List Bool) (i : Nat) (x : Int) : Bool := decide (ru.getD x.toNat 0 = (i : Int)) && la.getD x.toNat false
theorem tellD_get {ru : List Int} {la em : List Bool} {now : List Int} {e : Bool} {i : Nat} (h : i < em.length) : (tellD ru la em now e).getD i false = ((e && em.getD i false) || now.any (pred ru la i)) := by
  unfold tellD
  rw [List.getD_eq_getElem?_getD, List.getElem?_map, List.getElem?_range h]
  rfl
end Pl
attribute [irreducible] Pl.anyN Pl.pred

set_option maxRecDepth 100000 in
set_option maxHeartbeats 1600000 in
theorem plDone_any (vc vr vi vo vl ve : Value) (cl : List (List Int)) (ru fi : List Int) (fo : List (List Int)) (la em : List Bool) (s : ByteArray) (hs : s.size ≤ 200) (w : World) (F : Nat → Prop) (hF : ∀ b, F b → b < w.heap.size) (h1 : ((Enc.row .u64 4).sl 32).R F w [vc] cl) (h2 : ((Enc.int .i64).sl 8).R F w [vr] ru) (h3 : ((Enc.int .i64).sl 8).R F w [vi] fi)
    (h4 : (((Enc.int .i64).sl 8).sl 24).R F w [vo] fo) (h5 : (Enc.bool.sl 1).R F w [vl] la) (h6 : (Enc.bool.sl 1).R F w [ve] em) (hE : Pl.err cl.length ru fi fo la.length em.length = 0) :
    Calls Try.prog 29 #[.agg #[vc, vr, vi, vo, vl, ve], .string s] w fun e w' => ∃ v, e = .returned v ∧ Own w' w.heap.size 3 1 v ((Pl.rules ru la em (Pl.run cl fo fi s s.size) (decide (s.size = 0))).map (Value.int .i64)) ∧ Below w.heap.size w w' := by
  have HC := Lib.hid (fun (W : World) (hW : Below w.heap.size w W) => plAt_any vc vr vi vo vl ve cl ru fi fo la em s hs W F (fun b hb => Nat.lt_of_lt_of_le (hF b hb) hW.size) (Enc.mono _ h1 (fun _ h => h) (fun b hb => hW.block b (hF b hb))) (Enc.mono _ h3 (fun _ h => h) (fun b hb => hW.block b (hF b hb))) (Enc.mono _ h4 (fun _ h => h) (fun b hb => hW.block b (hF b hb))) hE)
  obtain ⟨hcl, -, -, -, hru, hla, hne1, hne, hrb⟩ := Pl.err_parts hE
  obtain ⟨ac, _, _, cc, rfl, -⟩ := slCls h1
  obtain ⟨ar, br, or_, cr, rfl, -, r3, r4⟩ := slInt h2
  obtain ⟨ai, _, _, ci, rfl, -⟩ := slInt h3
  obtain ⟨ao, _, _, co, rfl, -⟩ := slRowsI h4
  obtain ⟨al, bl, ol, cl', rfl, -, l3, l4⟩ := slBool h5
  obtain ⟨ae, be, oe, ce, rfl, -, m3, m4⟩ := slBool h6
  have R3 := Lib.hid r3; have R4 := Lib.hid r4; have L3 := Lib.hid l3; have L4 := Lib.hid l4; have M3 := Lib.hid m3; have M4 := Lib.hid m4
  have hst := (St.init w).alloc #[.slice ac cl.length cc, .slice ar ru.length cr, .slice ai fi.length ci, .slice ao fo.length co, .slice al la.length cl', .slice ae em.length ce] 56
  have hrm := Pl.run_mem (cl := cl) (fo := fo) (fi := fi) (s := s) (k := s.size)
  have hrl := Pl.run_len (cl := cl) (fo := fo) (fi := fi) (s := s) (k := s.size)
  generalize Pl.run cl fo fi s s.size = now at *
  obtain ⟨M, hM⟩ : ∃ M, Pl.tellD ru la em now (decide (s.size = 0)) = M := ⟨_, rfl⟩
  have hR : Pl.rules ru la em now (decide (s.size = 0)) = Pl.idx M em.length := by unfold Pl.rules; rw [hM]
  rw [hR]
  have HM := Lib.hid hM
  have HRM := Lib.hid hrm
  have HRB := Lib.hid hrb
  have HRU := Lib.hid hru
  have HLA := Lib.hid hla
  have hne2 : (em.length : Int) ≤ 20 := by omega
  have hnl : (now.length : Int) ≤ 200 := by omega
  clear h1 h2 h3 h4 h5 h6 hF r3 r4 l3 l4 m3 m4 hM hR hrm hrb hru hla hE
  go_enter Try.func29, Try.ntmps29
  go_wp2_with (fail)
  go_at_call 28
  refine (HC.out _ hst.bel).mono ?_
  rintro e w1 ⟨v1, rfl, ho1, hb1⟩
  obtain ⟨a1, c1, rfl⟩ := ho1.isLen
  rw [List.length_map] at ho1 ⊢
  replace hst := hst.pushOwn hb1 ho1
  clear ho1 hb1
  go_wp2
  have HST := Lib.hid (hst.nilOwn 3 1)
  clear hst
  go_loopw [6, 7, 8, 9] (fun v i _ _ wr => ∃ y : Nat, y ≤ em.length ∧ i = .int .i64 y ∧ St w wr [aOwn 3 1 v ((Pl.idx M y).map (Value.int .i64)), aOwn 3 1 (.slice a1 now.length c1) (now.map (Value.int .i64)), aCel w.heap.size 56 #[.slice ac cl.length cc, .slice ar ru.length cr, .slice ai fi.length ci, .slice ao fo.length co, .slice al la.length cl', .slice ae em.length ce]]) (fun _ i _ _ _ => em.length - (intOf i).toNat)
  case atStart => exact ⟨0, by omega, rfl, by rw [Pl.idx_nil]; exact HST.out⟩
  case round =>
    clear HST
    obtain ⟨y, hy, rfl, hst⟩ := hrel
    obtain ⟨x0, x1, x2, x3, x4, x5⟩ := hst.at6 2 rfl
    by_cases hyl : y < em.length
    · have hyl2 : (y : Int) < em.length := by omega
      obtain ⟨rfl, _, _⟩ := M3.out (by omega)
      have b0 := bkeep hst.bel (M4.out y hyl)
      obtain ⟨C, hC⟩ : ∃ C, em.getD y false = C := ⟨_, rfl⟩
      rw [hC] at b0
      have hget := Pl.tellD_get (ru := ru) (la := la) (now := now) (e := decide (s.size = 0)) hyl
      rw [HM.out, hC, ← Pl.anyN_all] at hget
      have HST := Lib.hid hst
      have hil := Pl.idx_len (I := M) (k := y)
      clear hst hC
      by_cases hsz : s.size = 0
      · have hemp := empty_of hsz
        rw [decide_eq_true hsz, Bool.true_and] at hget
        have HGET := Lib.hid hget
        clear hget hsz
        go_wp2
        clear x0 x1 x2 x3 x4 x5 b0
        go_loopw [8, 9] (fun mv j wr => ∃ q : Nat, q ≤ now.length ∧ j = .int .i64 q ∧ mv = .bool (Pl.anyN (Pl.pred ru la y) now C q) ∧ St w wr [aOwn 3 1 u6 ((Pl.idx M y).map (Value.int .i64)), aOwn 3 1 (.slice a1 now.length c1) (now.map (Value.int .i64)), aCel w.heap.size 56 #[.slice ac cl.length cc, .slice ar ru.length cr, .slice ai fi.length ci, .slice ao fo.length co, .slice al la.length cl', .slice (some ⟨be, oe, none⟩) em.length ce]]) (fun _ j _ => now.length - (intOf j).toNat)
        case atStart => exact ⟨0, by omega, rfl, by rw [Pl.anyN_zero], HST.out⟩
        case round =>
          clear HST
          obtain ⟨q, hq, rfl, rfl, hst⟩ := hrel
          obtain ⟨x0, x1, x2, x3, x4, x5⟩ := hst.at6 2 rfl
          by_cases hql : q < now.length
          · have hql2 : (q : Int) < now.length := by omega
            have hstep := Pl.anyN_step (p := Pl.pred ru la y) (m := C) hql
            cases hv : Pl.anyN (Pl.pred ru la y) now C q
            · rw [hv, Bool.false_or] at hstep
              have hmx := HRM.out (now.getD q 0) (by rw [show now.getD q 0 = now[q] by simp [List.getD, List.getElem?_eq_getElem hql]]; exact List.getElem_mem hql)
              obtain ⟨x, hx⟩ : ∃ x : Nat, now.getD q 0 = x := Int.eq_ofNat_of_zero_le hmx.1
              rcases (hst.ownAt 1 rfl).shape with ⟨_, he⟩ | ⟨gn, cn2, hvn, _, _⟩
              · rw [List.map_eq_nil_iff] at he; rw [he] at hql; simp at hql
              simp only [Value.slice.injEq] at hvn
              obtain ⟨rfl, -, rfl⟩ := hvn
              have n1 := ((hst.nth 1 rfl).cellOwn (f := Value.int .i64) (fun _ => rfl) q hql 0).1
              rw [hx] at n1 hmx hstep
              have hxr : x < ru.length := by have := HRU.out; omega
              have hxa : x < la.length := by have := HLA.out; omega
              obtain ⟨rfl, _, _⟩ := R3.out (by omega)
              obtain ⟨rfl, _, _⟩ := L3.out (by omega)
              have r1 := bkeep hst.bel (R4.out x hxr).1
              have l1 := bkeep hst.bel (L4.out x hxa)
              have hpr : Pl.pred ru la y (x : Int) = (decide (ru.getD x 0 = (y : Int)) && la.getD x false) := by unfold Pl.pred; rw [Int.toNat_natCast]
              obtain ⟨z, hz⟩ : ∃ z, ru.getD x 0 = z := ⟨_, rfl⟩
              obtain ⟨B, hB⟩ : ∃ B, la.getD x false = B := ⟨_, rfl⟩
              rw [hpr, hz, hB] at hstep
              rw [hz] at r1
              rw [hB] at l1
              have HST := Lib.hid hst
              have hx0 : (0 : Int) ≤ (x : Int) := by omega
              have hxr2 : (x : Int) < ru.length := by omega
              have hxa2 : (x : Int) < la.length := by omega
              clear hst hx hv hpr hz hB
              by_cases hzy : z = (y : Int)
              · rw [decide_eq_true hzy, Bool.true_and] at hstep
                have HSTEP := Lib.hid hstep
                have hzb : (z == (y : Int)) = true := by rw [beq_iff_eq]; exact hzy
                clear hstep hzy
                go_wp2
                go_quiet (fail)
                clear n1 r1 l1 x0 x1 x2 x3 x4 x5
                go_wp2
                go_roundw
                case rel => exact ⟨q + 1, by omega, by go_num, by rw [HSTEP.out], HST.out.drewN _⟩
                case measure => simp [intOf]; omega
              · rw [decide_eq_false hzy, Bool.false_and] at hstep
                have HSTEP := Lib.hid hstep
                have hzb : (z == (y : Int)) = false := by rw [beq_eq_false_iff_ne]; exact hzy
                clear hstep hzy
                go_wp2
                go_quiet (fail)
                clear n1 r1 l1 x0 x1 x2 x3 x4 x5
                go_wp2
                go_roundw
                case rel => exact ⟨q + 1, by omega, by go_num, by rw [HSTEP.out], HST.out.drewN _⟩
                case measure => simp [intOf]; omega
            · rw [hv, Bool.true_or] at hstep
              have HSTEP := Lib.hid hstep
              have HST := Lib.hid hst
              clear hst hv hstep
              go_wp2
              go_quiet (fail)
              clear x0 x1 x2 x3 x4 x5
              go_wp2
              go_roundw
              case rel => exact ⟨q + 1, by omega, by go_num, by rw [HSTEP.out], HST.out.drewN _⟩
              case measure => simp [intOf]; omega
          · obtain rfl : q = now.length := by omega
            have hidx := Pl.idx_step (I := M) (k := y)
            rw [HGET.out] at hidx
            clear x0 x1 x2 x3 x4 x5
            cases hv : Pl.anyN (Pl.pred ru la y) now C now.length
            · rw [hv] at hidx
              simp only [Bool.false_eq_true, if_false, List.append_nil] at hidx
              have HIDX := Lib.hid hidx
              have HST := Lib.hid hst
              clear hst hv hidx
              go_wp2
              go_roundw
              case rel => exact ⟨y + 1, by omega, by go_num, by rw [HIDX.out]; exact HST.out⟩
              case measure => simp [intOf]; omega
            · rw [hv] at hidx
              simp only [if_true] at hidx
              have HIDX := Lib.hid hidx
              have HST := Lib.hid hst
              have hll : ((Pl.idx M y).map (Value.int .i64)).length ≤ 20 := by rw [List.length_map]; omega
              clear hst hv hidx
              go_wp2_with (at_builtin; refine St.app1n intE rfl (.tmp 59) (.tmp 61) rfl rfl HST.out (.int .i64 (y : Int)) rfl _ 1 rfl (by simp) rfl (int_one4 _) (by unfold maxLen; omega) (by omega) ?_; intro g5 n5 c5 w5 hst5)
              go_roundw
              case rel => exact ⟨y + 1, by omega, by go_num, by rw [HIDX.out, List.map_append]; exact hst5⟩
              case measure => simp [intOf]; omega
      · have hemp := nonempty_of (by omega : 0 < s.size)
        rw [decide_eq_false hsz, Bool.false_and] at hget
        have HGET := Lib.hid hget
        clear hget hsz
        go_wp2
        clear x0 x1 x2 x3 x4 x5 b0
        go_loopw [8, 9] (fun mv j wr => ∃ q : Nat, q ≤ now.length ∧ j = .int .i64 q ∧ mv = .bool (Pl.anyN (Pl.pred ru la y) now false q) ∧ St w wr [aOwn 3 1 u6 ((Pl.idx M y).map (Value.int .i64)), aOwn 3 1 (.slice a1 now.length c1) (now.map (Value.int .i64)), aCel w.heap.size 56 #[.slice ac cl.length cc, .slice ar ru.length cr, .slice ai fi.length ci, .slice ao fo.length co, .slice al la.length cl', .slice (some ⟨be, oe, none⟩) em.length ce]]) (fun _ j _ => now.length - (intOf j).toNat)
        case atStart => exact ⟨0, by omega, rfl, by rw [Pl.anyN_zero], HST.out⟩
        case round =>
          clear HST
          obtain ⟨q, hq, rfl, rfl, hst⟩ := hrel
          obtain ⟨x0, x1, x2, x3, x4, x5⟩ := hst.at6 2 rfl
          by_cases hql : q < now.length
          · have hql2 : (q : Int) < now.length := by omega
            have hstep := Pl.anyN_step (p := Pl.pred ru la y) (m := false) hql
            cases hv : Pl.anyN (Pl.pred ru la y) now false q
            · rw [hv, Bool.false_or] at hstep
              have hmx := HRM.out (now.getD q 0) (by rw [show now.getD q 0 = now[q] by simp [List.getD, List.getElem?_eq_getElem hql]]; exact List.getElem_mem hql)
              obtain ⟨x, hx⟩ : ∃ x : Nat, now.getD q 0 = x := Int.eq_ofNat_of_zero_le hmx.1
              rcases (hst.ownAt 1 rfl).shape with ⟨_, he⟩ | ⟨gn, cn2, hvn, _, _⟩
              · rw [List.map_eq_nil_iff] at he; rw [he] at hql; simp at hql
              simp only [Value.slice.injEq] at hvn
              obtain ⟨rfl, -, rfl⟩ := hvn
              have n1 := ((hst.nth 1 rfl).cellOwn (f := Value.int .i64) (fun _ => rfl) q hql 0).1
              rw [hx] at n1 hmx hstep
              have hxr : x < ru.length := by have := HRU.out; omega
              have hxa : x < la.length := by have := HLA.out; omega
              obtain ⟨rfl, _, _⟩ := R3.out (by omega)
              obtain ⟨rfl, _, _⟩ := L3.out (by omega)
              have r1 := bkeep hst.bel (R4.out x hxr).1
              have l1 := bkeep hst.bel (L4.out x hxa)
              have hpr : Pl.pred ru la y (x : Int) = (decide (ru.getD x 0 = (y : Int)) && la.getD x false) := by unfold Pl.pred; rw [Int.toNat_natCast]
              obtain ⟨z, hz⟩ : ∃ z, ru.getD x 0 = z := ⟨_, rfl⟩
              obtain ⟨B, hB⟩ : ∃ B, la.getD x false = B := ⟨_, rfl⟩
              rw [hpr, hz, hB] at hstep
              rw [hz] at r1
              rw [hB] at l1
              have HST := Lib.hid hst
              have hx0 : (0 : Int) ≤ (x : Int) := by omega
              have hxr2 : (x : Int) < ru.length := by omega
              have hxa2 : (x : Int) < la.length := by omega
              clear hst hx hv hpr hz hB
              by_cases hzy : z = (y : Int)
              · rw [decide_eq_true hzy, Bool.true_and] at hstep
                have HSTEP := Lib.hid hstep
                have hzb : (z == (y : Int)) = true := by rw [beq_iff_eq]; exact hzy
                clear hstep hzy
                go_wp2
                go_quiet (fail)
                clear n1 r1 l1 x0 x1 x2 x3 x4 x5
                go_wp2
                go_roundw
                case rel => exact ⟨q + 1, by omega, by go_num, by rw [HSTEP.out], HST.out.drewN _⟩
                case measure => simp [intOf]; omega
              · rw [decide_eq_false hzy, Bool.false_and] at hstep
                have HSTEP := Lib.hid hstep
                have hzb : (z == (y : Int)) = false := by rw [beq_eq_false_iff_ne]; exact hzy
                clear hstep hzy
                go_wp2
                go_quiet (fail)
                clear n1 r1 l1 x0 x1 x2 x3 x4 x5
                go_wp2
                go_roundw
                case rel => exact ⟨q + 1, by omega, by go_num, by rw [HSTEP.out], HST.out.drewN _⟩
                case measure => simp [intOf]; omega
            · rw [hv, Bool.true_or] at hstep
              have HSTEP := Lib.hid hstep
              have HST := Lib.hid hst
              clear hst hv hstep
              go_wp2
              go_quiet (fail)
              clear x0 x1 x2 x3 x4 x5
              go_wp2
              go_roundw
              case rel => exact ⟨q + 1, by omega, by go_num, by rw [HSTEP.out], HST.out.drewN _⟩
              case measure => simp [intOf]; omega
          · obtain rfl : q = now.length := by omega
            have hidx := Pl.idx_step (I := M) (k := y)
            rw [HGET.out] at hidx
            clear x0 x1 x2 x3 x4 x5
            cases hv : Pl.anyN (Pl.pred ru la y) now false now.length
            · rw [hv] at hidx
              simp only [Bool.false_eq_true, if_false, List.append_nil] at hidx
              have HIDX := Lib.hid hidx
              have HST := Lib.hid hst
              clear hst hv hidx
              go_wp2
              go_roundw
              case rel => exact ⟨y + 1, by omega, by go_num, by rw [HIDX.out]; exact HST.out⟩
              case measure => simp [intOf]; omega
            · rw [hv] at hidx
              simp only [if_true] at hidx
              have HIDX := Lib.hid hidx
              have HST := Lib.hid hst
              have hll : ((Pl.idx M y).map (Value.int .i64)).length ≤ 20 := by rw [List.length_map]; omega
              clear hst hv hidx
              go_wp2_with (at_builtin; refine St.app1n intE rfl (.tmp 59) (.tmp 61) rfl rfl HST.out (.int .i64 (y : Int)) rfl _ 1 rfl (by simp) rfl (int_one4 _) (by unfold maxLen; omega) (by omega) ?_; intro g5 n5 c5 w5 hst5)
              go_roundw
              case rel => exact ⟨y + 1, by omega, by go_num, by rw [HIDX.out, List.map_append]; exact hst5⟩
              case measure => simp [intOf]; omega
    · obtain rfl : y = em.length := by omega
      obtain ⟨av, cv, hv⟩ := hst.own.isLen
      subst hv
      have HST := Lib.hid hst
      clear hst
      go_wp2
      go_ret
      exact ⟨_, rfl, HST.out.own, HST.out.bel⟩
end Go.Proofs.Ytldapomcjfkeeaa
