/-
  Rules of package places: the walk.
-/
import Derived.Test.YtldapomcjfkeeaaRules
namespace Go.Proofs.Ytldapomcjfkeeaa
set_option linter.unusedVariables false
open Go.ChangeShapes Go.WideShapes Go.ChangeAt Go.RowKit

theorem empty_of {s : ByteArray} (h : s.size = 0) : s.toList.isEmpty = true := by
  have hl : s.data.toList = [] := List.eq_nil_of_length_eq_zero (by rw [Array.length_toList]; exact h)
  rw [ByteArray.toList_eq, hl]; rfl
theorem nonempty_of {s : ByteArray} (h : 0 < s.size) : s.toList.isEmpty = false := by
  rw [ByteArray.toList_eq]
  cases hq : s.data.toList with
  | nil =>
    exfalso
    have h2 : s.data.toList.length = s.size := by rw [Array.length_toList]; rfl
    rw [hq] at h2
    simp at h2
    omega
  | cons a b => rfl

theorem St.ofHeap {w w' : World} {D : Nat} {T : TypeId} {cs : Array Value} (hb : Below w.heap.size w w') (hD : w.heap.size ≤ D) (hh : w'.heap[D]? = some (.cells cs T (0, 0))) : St w w' [aCel D T cs] := by
  refine ⟨hb, fun A hA => ?_, fun A hA b hb1 => ?_, by simp [aCel]⟩
  · rw [List.mem_singleton.1 hA]; exact hh
  · rw [List.mem_singleton.1 hA] at hb1
    simp [aCel] at hb1
    subst hb1
    exact ⟨hD, (Array.getElem?_eq_some_iff.1 hh).1⟩
theorem copy_eq {em : List Bool} (h : em.length ≤ 20) : (splice ((List.replicate 20 false).map Value.bool) 0 (em.map Value.bool)).toArray = boolsA (Pl.start em true) := by
  unfold boolsA Pl.start
  rw [if_pos rfl]
  congr 1
  unfold splice
  rw [List.take_zero, List.nil_append, Nat.zero_add, List.length_map, List.map_append, ← List.map_drop, List.drop_replicate]
theorem lit20 : (#[.bool false, .bool false, .bool false, .bool false, .bool false, .bool false, .bool false, .bool false, .bool false, .bool false, .bool false, .bool false, .bool false, .bool false, .bool false, .bool false, .bool false, .bool false, .bool false, .bool false] : Array Value) = boolsA (List.replicate 20 false) := rfl

set_option maxRecDepth 100000 in
set_option maxHeartbeats 800000 in
theorem plRules_any (vc vr vi vo vl ve : Value) (cl : List (List Int)) (ru fi : List Int) (fo : List (List Int)) (la em : List Bool) (s : ByteArray) (hs : s.size ≤ 140737488355328) (w : World) (F : Nat → Prop) (hF : ∀ b, F b → b < w.heap.size) (h1 : ((Enc.row .u64 4).sl 32).R F w [vc] cl) (h2 : ((Enc.int .i64).sl 8).R F w [vr] ru) (h3 : ((Enc.int .i64).sl 8).R F w [vi] fi)
    (h4 : (((Enc.int .i64).sl 8).sl 24).R F w [vo] fo) (h5 : (Enc.bool.sl 1).R F w [vl] la) (h6 : (Enc.bool.sl 1).R F w [ve] em) :
    Calls Try.prog 26 #[.agg #[vc, vr, vi, vo, vl, ve], .string s] w (Pl.RetL (Pl.runE (Pl.err cl.length ru fi fo la.length em.length) s.size) (if Pl.runE (Pl.err cl.length ru fi fo la.length em.length) s.size = 0 then Pl.rules ru la em (Pl.run cl fo fi s s.size) (decide (s.size = 0)) else []) w) := by
  have HC := Lib.hid (fun (W : World) (hW : Below w.heap.size w W) => plRun_any vc vr vi vo vl ve cl ru fi fo la em s hs W F (fun b hb => Nat.lt_of_lt_of_le (hF b hb) hW.size) (Enc.mono _ h1 (fun _ h => h) (fun b hb => hW.block b (hF b hb))) (Enc.mono _ h2 (fun _ h => h) (fun b hb => hW.block b (hF b hb))) (Enc.mono _ h3 (fun _ h => h) (fun b hb => hW.block b (hF b hb)))
    (Enc.mono _ h4 (fun _ h => h) (fun b hb => hW.block b (hF b hb))) (Enc.mono _ h5 (fun _ h => h) (fun b hb => hW.block b (hF b hb))) (Enc.mono _ h6 (fun _ h => h) (fun b hb => hW.block b (hF b hb))))
  obtain ⟨ac, _, _, cc, rfl, -⟩ := slCls h1
  obtain ⟨ar, br, or_, cr, rfl, -, r3, r4⟩ := slInt h2
  obtain ⟨ai, _, _, ci, rfl, -⟩ := slInt h3
  obtain ⟨ao, _, _, co, rfl, -⟩ := slRowsI h4
  obtain ⟨al, bl, ol, cl', rfl, -, l3, l4⟩ := slBool h5
  obtain ⟨ae, be, oe, ce, rfl, -, m3, m4⟩ := slBool h6
  have R3 := Lib.hid r3; have R4 := Lib.hid r4; have L3 := Lib.hid l3; have L4 := Lib.hid l4; have M3 := Lib.hid m3; have M4 := Lib.hid m4
  have hst := (St.init w).alloc #[.slice ac cl.length cc, .slice ar ru.length cr, .slice ai fi.length ci, .slice ao fo.length co, .slice al la.length cl', .slice ae em.length ce] 56
  have HPT := Lib.hid (fun (hz : Pl.err cl.length ru fi fo la.length em.length = 0) => Pl.err_parts hz)
  clear h1 h2 h3 h4 h5 h6 hF r3 r4 l3 l4 m3 m4
  have HRE := Lib.hid (fun (hz : Pl.runE (Pl.err cl.length ru fi fo la.length em.length) s.size = 0) => HPT.out (Pl.runE_zero hz).1)
  clear HPT
  obtain ⟨E, hE⟩ : ∃ E, Pl.runE (Pl.err cl.length ru fi fo la.length em.length) s.size = E := ⟨_, rfl⟩
  rw [hE] at HC HRE ⊢
  clear hE
  by_cases hE0 : E = 0
  · subst hE0
    obtain ⟨hcl, -, -, -, hru, hla, hne1, hne, hrb⟩ := HRE.out rfl
    rw [if_pos rfl] at HC ⊢
    have hrm := Pl.run_mem (cl := cl) (fo := fo) (fi := fi) (s := s) (k := s.size)
    have hrl := Pl.run_len (cl := cl) (fo := fo) (fi := fi) (s := s) (k := s.size)
    have h00 : s.size = 0 → Pl.run cl fo fi s s.size = [] := fun h => by rw [h, Pl.run_zero]
    generalize Pl.run cl fo fi s s.size = now at *
    have hre := Pl.rules_eq (ru := ru) (la := la) (em := em) (now := now) (e := decide (s.size = 0)) hne (fun x hx => by have := hrm x hx; exact hrb x.toNat (by omega))
    obtain ⟨R, hR⟩ : ∃ R, Pl.rules ru la em now (decide (s.size = 0)) = R := ⟨_, rfl⟩
    rw [hR] at hre ⊢
    have HREQ := Lib.hid hre
    have HRM := Lib.hid hrm
    have HRB := Lib.hid hrb
    have hne2 : (em.length : Int) ≤ 20 := by omega
    have HRU := Lib.hid hru
    have HLA := Lib.hid hla
    clear hrm hre hR HRE hrb hru hla
    by_cases hsz : s.size = 0
    · have hemp := empty_of hsz
      have h0 := h00 hsz
      subst h0
      rw [decide_eq_true hsz] at HREQ
      clear hsz h00
      go_enter Try.func26, Try.ntmps26
      go_wp2_with (fail)
      go_at_call 25
      refine (HC.out _ hst.bel).mono ?_
      rintro e w1 ⟨v1, rfl, ho1, hb1⟩
      obtain ⟨a1, c1, rfl⟩ := ho1.isLen
      replace hst := hst.call hb1
      clear ho1 hb1
      go_wp2
      rw [lit20]
      have hstE := (hst.alloc (boolsA (List.replicate 20 false)) 172)
      have hD : w.heap.size ≤ w1.heap.size := hst.bel.size
      clear hst
      obtain ⟨x0, x1, x2, x3, x4, x5⟩ := hstE.at6 1 rfl
      obtain ⟨rfl, hbe, -⟩ := M3.out (by omega)
      generalize hWW : w1.alloc (.cells (boolsA (List.replicate 20 false)) 172) = W1 at *
      have hstD := hstE.drew
      clear hstE
      generalize w1.heap.size = D at *
      clear hWW
      have hcells : ∀ j v, (em.map Value.bool)[j]? = some v → W1.drew.cell? ((⟨be, oe, none⟩ : Addr).add j) = some v := by
        intro j v hv
        have hj : j < em.length := by have := (List.getElem?_eq_some_iff.1 hv).1; rwa [List.length_map] at this
        have e2 : (⟨be, oe, none⟩ : Addr).add j = ⟨be, oe + j, none⟩ := by unfold Addr.add; split <;> simp_all
        rw [e2, bkeep hstD.bel (M4.out j hj), ← hv, List.getElem?_map, List.getElem?_eq_getElem hj]
        simp [List.getD, List.getElem?_eq_getElem hj]
      have hmin : (em.map Value.bool).length = Nat.min em.length 20 := by rw [List.length_map]; exact (Nat.min_eq_left hne).symm
      have HG := Lib.hid (hstD.heapAt 0 rfl)
      have HB := Lib.hid hstD.bel
      have HCEL := Lib.hid hcells
      have HMIN := Lib.hid hmin
      clear hcells hmin hstD
      go_region_law ((refine step_copy_splice rfl (.tmp 25) (.tmp 27) 54 54 rfl 4 Try.underlying54 (by kernel_rfl) (some ⟨D, 0, none⟩) (some ⟨be, oe, none⟩) 20 20 em.length ce rfl rfl D 0 ((List.replicate 20 false).map Value.bool) 172 HG.out (em.map Value.bool) HMIN.out (fun _ => ⟨rfl, _, rfl, HCEL.out⟩) (by rw [List.length_map, List.length_map, List.length_replicate]; omega) (fun v hv => by obtain ⟨b, _, rfl⟩ := List.mem_map.1 hv; rfl) w.heap.size w HB.out hD ?_; intro w5 hh5 hb5))
      all_goals
        have HST0 := Lib.hid (St.ofHeap hb5 hD (by have := hh5.out; rw [copy_eq hne] at this; exact this))
        clear hh5 hb5 x0 x1 x2 x3 x4 x5 HG HB HCEL HMIN
        go_wp2
        go_loopw [10, 31] (fun _ i wr => i = .int .i64 0 ∧ wr = w5) (fun _ _ _ => 0)
        case atStart => exact ⟨rfl, rfl⟩
        case round =>
          obtain ⟨rfl, rfl⟩ := hrel
          have hst := HST0.out
          have hIl := Pl.start_len (em := em) (e := true) hne
          rw [Pl.doneL_nil] at HREQ
          generalize Pl.start em true = I at *
          clear HST0
          have HIL := Lib.hid hIl
          have hA := hst.heapAt 0 rfl
          have HA := Lib.hid hA
          have hs : (Try.prog.info? 172).map (·.size) = some (boolsA I).size := by rw [boolsA_size, hIl]; kernel_rfl
          have HS := Lib.hid hs
          have HST := Lib.hid (hst.nilOwn 3 1)
          clear hst hs hA hIl
          go_wp2_with (refine wpList_load_row rfl 172 (.tmp 8) rfl D rfl 172 (boolsA I) (0, 0) _ HA.out Try.underlying172 rfl HS.out ?_)
          clear HA HS
          go_loopw [11, 12, 13, 57] (fun v _ _ i wr => ∃ k : Nat, k ≤ 20 ∧ i = .int .i64 k ∧ St w wr (aOwn 3 1 v ((Pl.idx I k).map (Value.int .i64)) :: [aCel D 172 (boolsA I)])) (fun _ _ _ i _ => 20 - (intOf i).toNat)
          case atStart => exact ⟨0, by omega, rfl, by rw [Pl.idx_nil]; exact HST.out⟩
          case round =>
            clear HST
            obtain ⟨k, hk, rfl, hst⟩ := hrel
            by_cases hlt : k < 20
            · have hidx : ∀ W, (Instr.index 172 (.agg (boolsA I)) (.int .i64 k)).run Try.prog W = .ok (.bool (I.getD k false)) W := fun W => run_index_bools Try.underlying172 Try.underlying4 (by kernel_rfl) I HIL.out k hlt W
              have hstep := Pl.idx_step (I := I) (k := k)
              have hlen := Pl.idx_len (I := I) (k := k)
              cases hv : I.getD k false
              · rw [hv] at hidx hstep
                simp only [Bool.false_eq_true, if_false, List.append_nil] at hstep
                have HSTEP := Lib.hid hstep
                have HST := Lib.hid hst
                have hk20 : (k : Int) < 20 := by omega
                clear hst hstep hv hlen
                go_wp2
                go_roundw
                case rel => exact ⟨k + 1, by omega, by go_num, by rw [HSTEP.out]; exact HST.out⟩
                case measure => simp [intOf]; omega
              · rw [hv] at hidx hstep
                simp only [if_true] at hstep
                have HSTEP := Lib.hid hstep
                have HST := Lib.hid hst
                have hk20 : (k : Int) < 20 := by omega
                have hll : ((Pl.idx I k).map (Value.int .i64)).length ≤ 20 := by rw [List.length_map]; omega
                clear hst hstep hv hlen
                go_wp2_with (at_builtin; refine St.app1n intE rfl (.tmp 62) (.tmp 64) rfl rfl HST.out (.int .i64 (k : Int)) rfl _ 1 rfl (by simp) rfl (int_one4 _) (by unfold maxLen; omega) (by omega) ?_; intro g5 n5 c5 w5 hst5)
                go_roundw
                case rel => exact ⟨k + 1, by omega, by go_num, by rw [HSTEP.out, List.map_append]; exact hst5⟩
                case measure => simp [intOf]; omega
            · obtain rfl : k = 20 := by omega
              rw [HREQ.out] at hst
              obtain ⟨a9, c9, hv9⟩ := hst.own.isLen
              subst hv9
              have HST := Lib.hid hst
              clear hst hlt
              go_wp2
              go_ret2
              exact ⟨_, rfl, HST.out.own, HST.out.bel⟩
    · have hnem := nonempty_of (by omega : 0 < s.size)
      rw [decide_eq_false hsz] at HREQ
      have hnl : (now.length : Int) ≤ 200 := by omega
      clear hsz h00
      go_enter Try.func26, Try.ntmps26
      go_wp2_with (fail)
      go_at_call 25
      refine (HC.out _ hst.bel).mono ?_
      rintro e w1 ⟨v1, rfl, ho1, hb1⟩
      obtain ⟨a1, c1, rfl⟩ := ho1.isLen
      rw [List.length_map] at ho1 ⊢
      replace hst := hst.pushOwn hb1 ho1
      clear ho1 hb1
      go_wp2
      rw [lit20]
      have hstE := (hst.alloc (boolsA (List.replicate 20 false)) 172)
      clear hst
      generalize w1.alloc (.cells (boolsA (List.replicate 20 false)) 172) = W1 at *
      generalize w1.heap.size = D at *
      rw [start_none (em := em)] at hstE
      have hJl := Pl.start_len (em := em) (e := false) hne
      generalize Pl.start em false = J0 at *
      have HJL := Lib.hid hJl
      have HST := Lib.hid hstE
      clear hstE hJl
      go_loopw [10, 31] (fun _ i wr => ∃ k : Nat, k ≤ now.length ∧ i = .int .i64 k ∧ St w wr [aCel D 172 (boolsA (Pl.doneL ru la J0 (now.take k))), aOwn 3 1 (.slice a1 now.length c1) (now.map (Value.int .i64)), aCel w.heap.size 56 #[.slice ac cl.length cc, .slice ar ru.length cr, .slice ai fi.length ci, .slice ao fo.length co, .slice al la.length cl', .slice ae em.length ce]]) (fun _ i _ => now.length - (intOf i).toNat)
      case atStart => exact ⟨0, by omega, rfl, by rw [List.take_zero, Pl.doneL_nil]; exact HST.out⟩
      case round =>
        clear HST W1
        obtain ⟨k, hk, rfl, hst⟩ := hrel
        by_cases hlt : k < now.length
        · have hmx := HRM.out (now.getD k 0) (by rw [show now.getD k 0 = now[k] by simp [List.getD, List.getElem?_eq_getElem hlt]]; exact List.getElem_mem hlt)
          have hstep := Pl.doneL_step (ru := ru) (la := la) (J := J0) hlt
          have hlen := Pl.doneL_len (ru := ru) (la := la) (J := J0) (now := now.take k)
          obtain ⟨x, hx⟩ : ∃ x : Nat, now.getD k 0 = x := Int.eq_ofNat_of_zero_le hmx.1
          rcases (hst.ownAt 1 rfl).shape with ⟨_, he⟩ | ⟨gn, cn2, hvn, _, _⟩
          · rw [List.map_eq_nil_iff] at he; rw [he] at hlt; simp at hlt
          simp only [Value.slice.injEq] at hvn
          obtain ⟨rfl, -, rfl⟩ := hvn
          have n1 := ((hst.nth 1 rfl).cellOwn (f := Value.int .i64) (fun _ => rfl) k hlt 0).1
          rw [hx] at n1 hmx hstep
          have hxr : x < ru.length := by have := HRU.out; omega
          have hxa : x < la.length := by have := HLA.out; omega
          obtain ⟨rfl, _, _⟩ := R3.out (by omega)
          obtain ⟨rfl, _, _⟩ := L3.out (by omega)
          have r1 := bkeep hst.bel (R4.out x hxr).1
          have b1 := bkeep hst.bel (L4.out x hxa)
          have hrb := HRB.out x (by omega)
          obtain ⟨q, hq⟩ : ∃ q : Nat, ru.getD x 0 = q := Int.eq_ofNat_of_zero_le hrb.1
          rw [hq] at r1 hrb
          have HSTEP := Lib.hid hstep
          have hd1 : ∀ J : List Bool, Pl.done1 ru la J (x : Int) = J.set q (J.getD q false || la.getD x false) := fun J => by unfold Pl.done1; rw [Int.toNat_natCast, hq, Int.toNat_natCast]
          generalize Pl.doneL ru la J0 (now.take k) = J at *
          have hqJ : q < J.length := by rw [hlen, HJL.out]; omega
          have hd := hd1 J
          have j1 := hst.celAt (boolsA_get hqJ)
          have jf := hst.celFree q
          obtain ⟨x0, x1, x2, x3, x4, x5⟩ := hst.at6 2 rfl
          have hq20 : (q : Int) < 20 := by omega
          have hq0 : (0 : Int) ≤ (q : Int) := by omega
          have hx0 : (0 : Int) ≤ (x : Int) := by omega
          have hxr2 : (x : Int) < ru.length := by omega
          have hxa2 : (x : Int) < la.length := by omega
          have hlt2 : (k : Int) < now.length := by omega
          cases hv : J.getD q false
          · obtain ⟨B, hB⟩ : ∃ B, la.getD x false = B := ⟨_, rfl⟩
            rw [hB] at b1 hd
            rw [hv] at j1 hd
            have hnext : (boolsA J).setIfInBounds q (.bool B) = boolsA (Pl.done1 ru la J (x : Int)) := by rw [boolsA_set, hd]; rfl
            have hst2 := hst.setCel q (.bool B)
            rw [hnext] at hst2
            have HST2 := Lib.hid hst2.drew
            clear hst hst2 hnext hd hd1 hB hv hstep hlen hx hq
            go_wp2
            go_region
            clear x0 x1 x2 x3 x4 x5 n1 r1 b1 j1 jf
            go_wp2
            go_roundw
            case rel => exact ⟨k + 1, by omega, by go_num, by rw [HSTEP.out]; exact HST2.out⟩
            case measure => simp [intOf]; omega
          · rw [hv] at j1 hd
            have hnext : (boolsA J).setIfInBounds q (.bool true) = boolsA (Pl.done1 ru la J (x : Int)) := by rw [boolsA_set, hd]; rfl
            have hst2 := hst.setCel q (.bool true)
            rw [hnext] at hst2
            have HST2 := Lib.hid hst2.drew
            clear hst hst2 hnext hd hd1 hv hstep hlen hx hq
            go_wp2
            go_region
            clear x0 x1 x2 x3 x4 x5 n1 r1 b1 j1 jf
            go_wp2
            go_roundw
            case rel => exact ⟨k + 1, by omega, by go_num, by rw [HSTEP.out]; exact HST2.out⟩
            case measure => simp [intOf]; omega
        · obtain rfl : k = now.length := by omega
          rw [List.take_length] at hst
          have hIl : (Pl.doneL ru la J0 now).length = 20 := by rw [Pl.doneL_len]; exact HJL.out
          generalize Pl.doneL ru la J0 now = I at *
          clear hlt hk
          have HIL := Lib.hid hIl
          have hA := hst.heapAt 0 rfl
          have HA := Lib.hid hA
          have hs : (Try.prog.info? 172).map (·.size) = some (boolsA I).size := by rw [boolsA_size, hIl]; kernel_rfl
          have HS := Lib.hid hs
          have HST := Lib.hid (hst.nilOwn 3 1)
          clear hst hs hA hIl
          go_wp2_with (refine wpList_load_row rfl 172 (.tmp 8) rfl D rfl 172 (boolsA I) (0, 0) _ HA.out Try.underlying172 rfl HS.out ?_)
          clear HA HS
          go_loopw [11, 12, 13, 57] (fun v _ _ i wr => ∃ k : Nat, k ≤ 20 ∧ i = .int .i64 k ∧ St w wr (aOwn 3 1 v ((Pl.idx I k).map (Value.int .i64)) :: [aCel D 172 (boolsA I), aOwn 3 1 (.slice a1 now.length c1) (now.map (Value.int .i64)), aCel w.heap.size 56 #[.slice ac cl.length cc, .slice ar ru.length cr, .slice ai fi.length ci, .slice ao fo.length co, .slice al la.length cl', .slice ae em.length ce]])) (fun _ _ _ i _ => 20 - (intOf i).toNat)
          case atStart => exact ⟨0, by omega, rfl, by rw [Pl.idx_nil]; exact HST.out⟩
          case round =>
            clear HST
            obtain ⟨k, hk, rfl, hst⟩ := hrel
            by_cases hlt : k < 20
            · have hidx : ∀ W, (Instr.index 172 (.agg (boolsA I)) (.int .i64 k)).run Try.prog W = .ok (.bool (I.getD k false)) W := fun W => run_index_bools Try.underlying172 Try.underlying4 (by kernel_rfl) I HIL.out k hlt W
              have hstep := Pl.idx_step (I := I) (k := k)
              have hlen := Pl.idx_len (I := I) (k := k)
              cases hv : I.getD k false
              · rw [hv] at hidx hstep
                simp only [Bool.false_eq_true, if_false, List.append_nil] at hstep
                have HSTEP := Lib.hid hstep
                have HST := Lib.hid hst
                have hk20 : (k : Int) < 20 := by omega
                clear hst hstep hv hlen
                go_wp2
                go_roundw
                case rel => exact ⟨k + 1, by omega, by go_num, by rw [HSTEP.out]; exact HST.out⟩
                case measure => simp [intOf]; omega
              · rw [hv] at hidx hstep
                simp only [if_true] at hstep
                have HSTEP := Lib.hid hstep
                have HST := Lib.hid hst
                have hk20 : (k : Int) < 20 := by omega
                have hll : ((Pl.idx I k).map (Value.int .i64)).length ≤ 20 := by rw [List.length_map]; omega
                clear hst hstep hv hlen
                go_wp2_with (at_builtin; refine St.app1n intE rfl (.tmp 62) (.tmp 64) rfl rfl HST.out (.int .i64 (k : Int)) rfl _ 1 rfl (by simp) rfl (int_one4 _) (by unfold maxLen; omega) (by omega) ?_; intro g5 n5 c5 w5 hst5)
                go_roundw
                case rel => exact ⟨k + 1, by omega, by go_num, by rw [HSTEP.out, List.map_append]; exact hst5⟩
                case measure => simp [intOf]; omega
            · obtain rfl : k = 20 := by omega
              rw [HREQ.out] at hst
              obtain ⟨a9, c9, hv9⟩ := hst.own.isLen
              subst hv9
              have HST := Lib.hid hst
              clear hst hlt
              go_wp2
              go_ret2
              exact ⟨_, rfl, HST.out.own, HST.out.bel⟩
  · rw [if_neg hE0] at HC ⊢
    have hne : (E != 0) = true := by rw [bne_iff_ne]; exact hE0
    clear hE0
    go_enter Try.func26, Try.ntmps26
    go_wp2_with (fail)
    go_at_call 25
    refine (HC.out _ hst.bel).mono ?_
    rintro e w1 ⟨v1, rfl, ho1, hb1⟩
    replace hst := hst.call hb1
    go_wp2
    go_ret2
    exact ⟨_, rfl, Own.nil _ _ _ _, hst.bel⟩
end Go.Proofs.Ytldapomcjfkeeaa
