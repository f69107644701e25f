/-
  step of package places: what it computes.
-/
import Derived.Test.YtldapomcjfkeeaaMark
namespace Go.Proofs.Ytldapomcjfkeeaa
set_option linter.unusedVariables false
open Go.ChangeShapes Go.WideShapes Go.ChangeAt Go.RowKit

namespace Pl
def zeros : List Bool := List.replicate 200 false
def marks (cl : List (List Int)) (fo : List (List Int)) (b : Nat) (I : List Bool) (now : List Int) : List Bool := now.foldl (fun I x => markL cl b I (fo.getD x.toNat [])) I
def idx (I : List Bool) (k : Nat) : List Int := ((List.range k).filter (fun i => I.getD i false)).map (fun i : Nat => (i : Int))
def step (cl fo : List (List Int)) (fi now : List Int) (first : Bool) (b : Nat) : List Int := idx (marks cl fo b (if first = true then markL cl b zeros fi else zeros) now) 200
theorem marks_len {cl fo b} {now : List Int} : ∀ {I}, (marks cl fo b I now).length = I.length := by
  induction now with
  | nil => intro I; rfl
  | cons x r ih => intro I; show (marks cl fo b (markL cl b I _) r).length = _; rw [ih, markL_len]
theorem marks_step {cl fo b I} {now : List Int} {k : Nat} (h : k < now.length) : marks cl fo b I (now.take (k + 1)) = markL cl b (marks cl fo b I (now.take k)) (fo.getD (now.getD k 0).toNat []) := by
  unfold marks
  rw [List.take_succ_eq_append_getElem h, List.foldl_append]
  simp [List.getD, List.getElem?_eq_getElem h]
theorem marks_nil {cl fo b I} : marks cl fo b I [] = I := rfl
theorem idx_step {I : List Bool} {k : Nat} : idx I (k + 1) = idx I k ++ (if I.getD k false = true then [(k : Int)] else []) := by
  unfold idx
  rw [List.range_succ, List.filter_append, List.map_append]
  congr 1
  cases h : I.getD k false
  · rw [List.filter_cons]; simp only [h, List.filter_nil]; rfl
  · rw [List.filter_cons]; simp only [h, List.filter_nil]; rfl
theorem idx_nil {I : List Bool} : idx I 0 = [] := by unfold idx; rfl
theorem idx_len {I : List Bool} {k : Nat} : (idx I k).length ≤ k := by
  unfold idx
  rw [List.length_map]
  have := List.length_filter_le (fun i => I.getD i false) (List.range k)
  simpa using this
end Pl
attribute [irreducible] Pl.marks Pl.idx
theorem int_one4 (x : Int) : ∀ q ∈ (Value.int .i64 x).cells.toList, q.oneCell' = true := by
  intro q hq; simp [Value.cells] at hq; subst hq; rfl
theorem zeros_eq : Try.zeroCells236 = boolsA Pl.zeros := by kernel_rfl
theorem boolsA_size {I : List Bool} : (boolsA I).size = I.length := by simp [boolsA]
/-- x[i] of an array of truths by value. -/
theorem run_index_bools {P : Program} {t e : TypeId} {n : Nat} (ht : P.underlying t = some (.array n e)) (he : P.underlying e = some .bool) (hs : (P.info? e).map (·.size) = some 1)
    (I : List Bool) (hl : I.length = n) (i : Nat) (hi : i < n) (w : World) : (Instr.index t (.agg (boolsA I)) (.int .i64 i)).run P w = .ok (.bool (I.getD i false)) w := by
  cases hq : P.info? e with
  | none => simp [hq] at hs
  | some inf =>
    have hs1 : inf.size = 1 := by simpa [hq] using hs
    have hil : i < I.length := by omega
    simp [Instr.index, asIntOf, run_underlying ht, run_underlying he, sizeOf, typeInfo, hq, hs1, part, isAgg, hi, hil, boolsA]
attribute [irreducible] Pl.zeros

set_option maxRecDepth 100000 in
set_option maxHeartbeats 8000000 in
theorem step_any (b : Nat) (hb : b < 256) (first : Bool) (vc vr vi vo vl ve vn : Value) (cl fo : List (List Int)) (fi now : List Int) (w : World) (F Fn : Nat → Prop) (hF : ∀ b, F b → b < w.heap.size) (h1 : ((Enc.row .u64 4).sl 32).R F w [vc] cl) (h2 : ((Enc.int .i64).sl 8).R F w [vi] fi) (h3 : (((Enc.int .i64).sl 8).sl 24).R F w [vo] fo)
    (h4 : ((Enc.int .i64).sl 8).R Fn w [vn] now) (hcl : cl.length ≤ 200) (hfi : ∀ x ∈ fi, 0 ≤ x ∧ x < cl.length) (hfo : fo.length = cl.length) (hfo2 : ∀ i, i < cl.length → ∀ x ∈ fo.getD i [], 0 ≤ x ∧ x < cl.length) (hn : ∀ x ∈ now, 0 ≤ x ∧ x < cl.length) :
    Calls Try.prog 85 #[.agg #[vc, vr, vi, vo, vl, ve], vn, .bool first, .int .u8 b] w fun e w' => ∃ v, e = .returned v ∧ Own w' w.heap.size 3 1 v ((Pl.step cl fo fi now first b).map (Value.int .i64)) ∧ Below w.heap.size w w' := by
  have HM := Lib.hid (fun (W : World) (v : Value) (l : List Int) (I : List Bool) (hW : ((Enc.int .i64).sl 8).R F w [v] l) (hI : I.length = 200) (hm : ∀ x ∈ l, 0 ≤ x ∧ x < cl.length) hs => mark_any w (w.heap.size + 1 + 1) (w.heap.size + 1) w.heap.size b hb vc vr vi vo vl ve v cl l I [] W F h1 hW hI hcl hm hs)
  obtain ⟨ai, _, _, ci, rfl, -, -, -⟩ := slInt h2
  obtain ⟨ao, bo, oo, co, rfl, f3, f4⟩ := slRowsI h3
  obtain ⟨an, bn, on, cn, rfl, hnl, n3, n4⟩ := slInt h4
  have F3 := Lib.hid f3; have F4 := Lib.hid f4; have N3 := Lib.hid n3; have N4 := Lib.hid n4; have HFO := Lib.hid hfo; have HFO2 := Lib.hid hfo2; have HN := Lib.hid hn
  have hnl2 : (now.length : Int) ≤ 140737488355328 := by omega
  have hz : Pl.zeros.length = 200 := by unfold Pl.zeros; simp
  have hst := (((St.init w).alloc #[vc, vr, .slice ai fi.length ci, .slice ao fo.length co, vl, ve] 56).alloc #[.int .u8 b] 5).alloc (boolsA Pl.zeros) 236
  simp only [World.size_alloc] at hst
  obtain ⟨J, hJ⟩ : ∃ J, (if first = true then Pl.markL cl b Pl.zeros fi else Pl.zeros) = J := ⟨_, rfl⟩
  have hJl : J.length = 200 := by rw [← hJ]; cases first <;> simp [Pl.markL_len, hz]
  have HR : Hid (Pl.step cl fo fi now first b = Pl.idx (Pl.marks cl fo b J now) 200) := Lib.hid (by unfold Pl.step; rw [hJ])
  generalize Pl.step cl fo fi now first b = R at *
  have hsz : (Try.prog.info? 236).map (·.size) = some 200 := by kernel_rfl
  have HSZ := Lib.hid hsz
  have HFI := Lib.hid hfi
  have HI2 := Lib.hid h2
  clear h1 h2 h3 h4 f3 f4 n3 n4 hfo hfo2 hn hnl hsz hfi hF
  have HZ := Lib.hid hz
  have HJL := Lib.hid hJl
  clear hz hJl
  go_enter Try.func85, Try.ntmps85
  cases first
  · have HJ0 := Lib.hid (show Pl.zeros = J from hJ)
    have HST := Lib.hid hst
    clear hst hJ
    go_wp2
    rw [zeros_eq]
    generalize ((w.alloc (.cells #[vc, vr, .slice ai fi.length ci, .slice ao fo.length co, vl, ve] 56)).alloc (.cells #[.int .u8 b] 5)).alloc (.cells (boolsA Pl.zeros) 236) = W at HST ⊢
    have hs0 := HST.out
    rw [HJ0.out] at hs0
    have HS2 := Lib.hid hs0
    clear HST hs0
    go_loopw [12, 24] (fun _ i wr => ∃ k : Nat, k ≤ now.length ∧ i = .int .i64 k ∧ St w wr [aCel (w.heap.size + 1 + 1) 236 (boolsA (Pl.marks cl fo b J (now.take k))), aCel (w.heap.size + 1) 5 #[.int .u8 b], aCel w.heap.size 56 #[vc, vr, .slice ai fi.length ci, .slice ao fo.length co, vl, ve]]) (fun _ i _ => now.length - (intOf i).toNat)
    case atStart => exact ⟨0, by omega, rfl, by rw [List.take_zero, Pl.marks_nil]; exact HS2.out⟩
    case round =>
      clear HS2 W
      obtain ⟨k, hk, rfl, hst⟩ := hrel
      by_cases hlt : k < now.length
      · obtain ⟨rfl, _, _⟩ := N3.out (by omega)
        obtain ⟨c1, -⟩ := N4.out k hlt
        have hmx := HN.out (now.getD k 0) (by rw [show now.getD k 0 = now[k] by simp [List.getD, List.getElem?_eq_getElem hlt]]; exact List.getElem_mem hlt)
        have hstep := Pl.marks_step (cl := cl) (fo := fo) (b := b) (I := J) hlt
        have hlen := Pl.marks_len (cl := cl) (fo := fo) (b := b) (I := J) (now := now.take k)
        obtain ⟨x, hx⟩ : ∃ x : Nat, now.getD k 0 = x := Int.eq_ofNat_of_zero_le hmx.1
        rw [hx] at c1 hmx hstep
        rw [Int.toNat_natCast] at hstep
        have hxl : x < cl.length := by omega
        have hxf : x < fo.length := by have := HFO.out; omega
        obtain ⟨rfl, _, _⟩ := F3.out (by omega)
        obtain ⟨a8, c8, e1, e2⟩ := F4.out x hxf
        have HSTEP := Lib.hid hstep
        generalize Pl.marks cl fo b J (now.take k) = I at *
        have c1 := bkeep hst.bel c1
        have e1 := bkeep hst.bel e1
        obtain ⟨x0, x1, x2, x3, x4, x5⟩ := hst.at6 2 rfl
        have hx0 : (0 : Int) ≤ (x : Int) := by omega
        have hxf2 : (x : Int) < fo.length := by omega
        have hlt2 : (k : Int) < now.length := by omega
        have HC := Lib.hid (HM.out _ _ (fo.getD x []) I e2 (by rw [hlen]; exact HJL.out) (HFO2.out x hxl) hst)
        generalize (fo.getD x []).length = fl at *
        clear hst e2 hstep hlen hx
        go_wp2_with (fail)
        go_at_call 138
        refine HC.out.mono ?_
        rintro e w3 ⟨rfl, hst3⟩
        clear c1 e1 x0 x1 x2 x3 x4 x5
        go_wp2
        go_roundw
        case rel => exact ⟨k + 1, by omega, by go_num, by rw [HSTEP.out]; exact hst3⟩
        case measure => simp [intOf]; omega
      · obtain rfl : k = now.length := by omega
        rw [List.take_length] at hst
        have hlen := Pl.marks_len (cl := cl) (fo := fo) (b := b) (I := J) (now := now)
        have hIl : (Pl.marks cl fo b J now).length = 200 := by rw [hlen]; exact HJL.out
        generalize Pl.marks cl fo b J now = I at *
        have HIL := Lib.hid hIl
        have hA := hst.heapAt 0 rfl
        have HA := Lib.hid hA
        have hs : (Try.prog.info? 236).map (·.size) = some (boolsA I).size := by rw [boolsA_size, hIl]; exact HSZ.out
        have HS := Lib.hid hs
        have hst2 := hst.nilOwn 3 1
        clear hst hs hA hlen hIl hlt hk
        go_wp2_with (refine wpList_load_row rfl 236 (.tmp 9) rfl (w.heap.size + 1 + 1) rfl 236 (boolsA I) (0, 0) _ HA.out Try.underlying236 rfl HS.out ?_)
        have HST := Lib.hid hst2
        clear hst2 HA HS
        go_loopw [13, 14, 15, 37] (fun v _ _ i wr => ∃ k : Nat, k ≤ 200 ∧ i = .int .i64 k ∧ St w wr (aOwn 3 1 v ((Pl.idx I k).map (Value.int .i64)) :: [aCel (w.heap.size + 1 + 1) 236 (boolsA I), aCel (w.heap.size + 1) 5 #[.int .u8 b], aCel w.heap.size 56 #[vc, vr, .slice ai fi.length ci, .slice ao fo.length co, vl, ve]])) (fun _ _ _ i _ => 200 - (intOf i).toNat)
        case atStart => exact ⟨0, by omega, rfl, by rw [Pl.idx_nil]; exact HST.out⟩
        case round =>
          clear HST
          obtain ⟨k, hk, rfl, hst⟩ := hrel
          by_cases hlt : k < 200
          · have hidx : ∀ W, (Instr.index 236 (.agg (boolsA I)) (.int .i64 k)).run Try.prog W = .ok (.bool (I.getD k false)) W := fun W => run_index_bools Try.underlying236 Try.underlying4 (by kernel_rfl) I HIL.out k hlt W
            have hstep := Pl.idx_step (I := I) (k := k)
            have hlen := Pl.idx_len (I := I) (k := k)
            cases hv : I.getD k false
            · rw [hv] at hidx hstep
              simp only [Bool.false_eq_true, if_false, List.append_nil] at hstep
              have HSTEP := Lib.hid hstep
              have HST := Lib.hid hst
              have hk200 : (k : Int) < 200 := by omega
              clear hst hstep hv hlen
              go_wp2
              go_roundw
              case rel => exact ⟨k + 1, by omega, by go_num, by rw [HSTEP.out]; exact HST.out⟩
              case measure => simp [intOf]; omega
            · rw [hv] at hidx hstep
              simp only [if_true] at hstep
              have HSTEP := Lib.hid hstep
              have HST := Lib.hid hst
              have hk200 : (k : Int) < 200 := by omega
              have hll : ((Pl.idx I k).map (Value.int .i64)).length ≤ 200 := by rw [List.length_map]; omega
              clear hst hstep hv hlen
              go_wp2_with (at_builtin; refine St.app1n intE rfl (.tmp 42) (.tmp 44) rfl rfl HST.out (.int .i64 (k : Int)) rfl _ 1 rfl (by simp) rfl (int_one4 _) (by unfold maxLen; omega) (by omega) ?_; intro g5 n5 c5 w5 hst5)
              go_roundw
              case rel => exact ⟨k + 1, by omega, by go_num, by rw [HSTEP.out, List.map_append]; exact hst5⟩
              case measure => simp [intOf]; omega
          · obtain rfl : k = 200 := by omega
            rw [← HR.out] at hst
            obtain ⟨a9, c9, hv9⟩ := hst.own.isLen
            have HST := Lib.hid hst
            clear hst hlt
            go_wp2
            go_ret
            exact ⟨_, rfl, HST.out.own, HST.out.bel⟩
  · have HJ := Lib.hid (show Pl.markL cl b Pl.zeros fi = J from hJ)
    have HST := Lib.hid hst
    obtain ⟨x0, x1, x2, x3, x4, x5⟩ := hst.at6 2 rfl
    clear hJ hst
    have hzz := zeros_eq
    go_wp2_with (fail)
    go_at_call 138
    refine (HM.out _ _ fi Pl.zeros HI2.out HZ.out HFI.out HST.out).mono ?_
    rintro e w1 ⟨rfl, hst1⟩
    rw [HJ.out] at hst1
    have HS2 := Lib.hid hst1
    clear hst1 hzz x0 x1 x2 x3 x4 x5
    go_wp2
    generalize w1 = W at HS2 ⊢
    go_loopw [12, 24] (fun _ i wr => ∃ k : Nat, k ≤ now.length ∧ i = .int .i64 k ∧ St w wr [aCel (w.heap.size + 1 + 1) 236 (boolsA (Pl.marks cl fo b J (now.take k))), aCel (w.heap.size + 1) 5 #[.int .u8 b], aCel w.heap.size 56 #[vc, vr, .slice ai fi.length ci, .slice ao fo.length co, vl, ve]]) (fun _ i _ => now.length - (intOf i).toNat)
    case atStart => exact ⟨0, by omega, rfl, by rw [List.take_zero, Pl.marks_nil]; exact HS2.out⟩
    case round =>
      clear HS2 W
      obtain ⟨k, hk, rfl, hst⟩ := hrel
      by_cases hlt : k < now.length
      · obtain ⟨rfl, _, _⟩ := N3.out (by omega)
        obtain ⟨c1, -⟩ := N4.out k hlt
        have hmx := HN.out (now.getD k 0) (by rw [show now.getD k 0 = now[k] by simp [List.getD, List.getElem?_eq_getElem hlt]]; exact List.getElem_mem hlt)
        have hstep := Pl.marks_step (cl := cl) (fo := fo) (b := b) (I := J) hlt
        have hlen := Pl.marks_len (cl := cl) (fo := fo) (b := b) (I := J) (now := now.take k)
        obtain ⟨x, hx⟩ : ∃ x : Nat, now.getD k 0 = x := Int.eq_ofNat_of_zero_le hmx.1
        rw [hx] at c1 hmx hstep
        rw [Int.toNat_natCast] at hstep
        have hxl : x < cl.length := by omega
        have hxf : x < fo.length := by have := HFO.out; omega
        obtain ⟨rfl, _, _⟩ := F3.out (by omega)
        obtain ⟨a8, c8, e1, e2⟩ := F4.out x hxf
        have HSTEP := Lib.hid hstep
        generalize Pl.marks cl fo b J (now.take k) = I at *
        have c1 := bkeep hst.bel c1
        have e1 := bkeep hst.bel e1
        obtain ⟨x0, x1, x2, x3, x4, x5⟩ := hst.at6 2 rfl
        have hx0 : (0 : Int) ≤ (x : Int) := by omega
        have hxf2 : (x : Int) < fo.length := by omega
        have hlt2 : (k : Int) < now.length := by omega
        have HC := Lib.hid (HM.out _ _ (fo.getD x []) I e2 (by rw [hlen]; exact HJL.out) (HFO2.out x hxl) hst)
        generalize (fo.getD x []).length = fl at *
        clear hst e2 hstep hlen hx
        go_wp2_with (fail)
        go_at_call 138
        refine HC.out.mono ?_
        rintro e w3 ⟨rfl, hst3⟩
        clear c1 e1 x0 x1 x2 x3 x4 x5
        go_wp2
        go_roundw
        case rel => exact ⟨k + 1, by omega, by go_num, by rw [HSTEP.out]; exact hst3⟩
        case measure => simp [intOf]; omega
      · obtain rfl : k = now.length := by omega
        rw [List.take_length] at hst
        have hlen := Pl.marks_len (cl := cl) (fo := fo) (b := b) (I := J) (now := now)
        have hIl : (Pl.marks cl fo b J now).length = 200 := by rw [hlen]; exact HJL.out
        generalize Pl.marks cl fo b J now = I at *
        have HIL := Lib.hid hIl
        have hA := hst.heapAt 0 rfl
        have HA := Lib.hid hA
        have hs : (Try.prog.info? 236).map (·.size) = some (boolsA I).size := by rw [boolsA_size, hIl]; exact HSZ.out
        have HS := Lib.hid hs
        have hst2 := hst.nilOwn 3 1
        clear hst hs hA hlen hIl hlt hk
        go_wp2_with (refine wpList_load_row rfl 236 (.tmp 9) rfl (w.heap.size + 1 + 1) rfl 236 (boolsA I) (0, 0) _ HA.out Try.underlying236 rfl HS.out ?_)
        have HST := Lib.hid hst2
        clear hst2 HA HS
        go_loopw [13, 14, 15, 37] (fun v _ _ i wr => ∃ k : Nat, k ≤ 200 ∧ i = .int .i64 k ∧ St w wr (aOwn 3 1 v ((Pl.idx I k).map (Value.int .i64)) :: [aCel (w.heap.size + 1 + 1) 236 (boolsA I), aCel (w.heap.size + 1) 5 #[.int .u8 b], aCel w.heap.size 56 #[vc, vr, .slice ai fi.length ci, .slice ao fo.length co, vl, ve]])) (fun _ _ _ i _ => 200 - (intOf i).toNat)
        case atStart => exact ⟨0, by omega, rfl, by rw [Pl.idx_nil]; exact HST.out⟩
        case round =>
          clear HST
          obtain ⟨k, hk, rfl, hst⟩ := hrel
          by_cases hlt : k < 200
          · have hidx : ∀ W, (Instr.index 236 (.agg (boolsA I)) (.int .i64 k)).run Try.prog W = .ok (.bool (I.getD k false)) W := fun W => run_index_bools Try.underlying236 Try.underlying4 (by kernel_rfl) I HIL.out k hlt W
            have hstep := Pl.idx_step (I := I) (k := k)
            have hlen := Pl.idx_len (I := I) (k := k)
            cases hv : I.getD k false
            · rw [hv] at hidx hstep
              simp only [Bool.false_eq_true, if_false, List.append_nil] at hstep
              have HSTEP := Lib.hid hstep
              have HST := Lib.hid hst
              have hk200 : (k : Int) < 200 := by omega
              clear hst hstep hv hlen
              go_wp2
              go_roundw
              case rel => exact ⟨k + 1, by omega, by go_num, by rw [HSTEP.out]; exact HST.out⟩
              case measure => simp [intOf]; omega
            · rw [hv] at hidx hstep
              simp only [if_true] at hstep
              have HSTEP := Lib.hid hstep
              have HST := Lib.hid hst
              have hk200 : (k : Int) < 200 := by omega
              have hll : ((Pl.idx I k).map (Value.int .i64)).length ≤ 200 := by rw [List.length_map]; omega
              clear hst hstep hv hlen
              go_wp2_with (at_builtin; refine St.app1n intE rfl (.tmp 42) (.tmp 44) rfl rfl HST.out (.int .i64 (k : Int)) rfl _ 1 rfl (by simp) rfl (int_one4 _) (by unfold maxLen; omega) (by omega) ?_; intro g5 n5 c5 w5 hst5)
              go_roundw
              case rel => exact ⟨k + 1, by omega, by go_num, by rw [HSTEP.out, List.map_append]; exact hst5⟩
              case measure => simp [intOf]; omega
          · obtain rfl : k = 200 := by omega
            rw [← HR.out] at hst
            obtain ⟨a9, c9, hv9⟩ := hst.own.isLen
            have HST := Lib.hid hst
            clear hst hlt
            go_wp2
            go_ret
            exact ⟨_, rfl, HST.out.own, HST.out.bel⟩
end Go.Proofs.Ytldapomcjfkeeaa
