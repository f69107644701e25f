/-
  next of package dfa: the places that may come next.
-/
import Derived.Test.YtlgabpcddldelaaDmSet
import Derived.Test.YtlgabpcddldelaaPosnChk
namespace Go.Proofs.Ytlgabpcddldelaa
set_option linter.unusedVariables false
set_option linter.unusedSimpArgs false
open Go.ChangeShapes Go.WideShapes Go.ChangeAt Go.RowKit

namespace Dm
theorem setA_size {ws : List Nat} (h : Ok4 ws) : (setA ws).size = 4 := by simp [setA, h.len]
theorem setA_one (ws : List Nat) : (setA ws).all (·.oneCell') = true := by
  rw [← Array.all_toList]
  simp only [setA, List.all_map]
  exact List.all_eq_true.2 (fun _ _ => rfl)
theorem setInfo : (Try.prog.info? 177).map (·.size) = some 4 := by kernel_rfl
/-- The words hold just those of the list. -/
def Holds (ws : List Nat) (l : List Int) : Prop := Ok4 ws ∧ ∀ x, x < 256 → mem ws x = l.contains (x : Int)
theorem holds_nil : Holds zero [] := ⟨ok_zero, fun x _ => by rw [mem_zero]; rfl⟩
theorem holds_put {ws : List Nat} {l : List Int} (h : Holds ws l) {f : Nat} (hf : f < 256) : Holds (put ws f) (l ++ [(f : Int)]) := by
  refine ⟨ok_put h.1 hf, fun x hx => ?_⟩
  rw [mem_put h.1 hf hx, h.2 x hx, Bool.eq_iff_iff, Bool.or_eq_true, List.contains_iff_mem, List.contains_iff_mem, decide_eq_true_iff, List.mem_append, List.mem_singleton]
  constructor
  · rintro (h1 | h1)
    · exact .inl h1
    · exact .inr (by omega)
  · rintro (h1 | h1)
    · exact .inl h1
    · exact .inr (by omega)
def un (fo : List (List Int)) (ws : List Nat) (i : Nat) : List Int := (List.range i).flatMap fun y => if mem ws y then fo.getD y [] else []
theorem un_zero (fo : List (List Int)) (ws : List Nat) : un fo ws 0 = [] := rfl
theorem un_succ (fo : List (List Int)) (ws : List Nat) (i : Nat) : un fo ws (i + 1) = un fo ws i ++ (if mem ws i then fo.getD i [] else []) := by
  unfold un; rw [List.range_succ, List.flatMap_append]; simp
theorem set_range {w : World} {B g n c k : Nat} {W : List (List Nat)} (hw : ∀ ws ∈ W, Ok4 ws) (h : Own w B 177 4 (.slice (some ⟨g, 0, none⟩) n c) (W.map setV)) (hk : k < W.length) : w.rangeAt g (k * 4) ((W.getD k zero).map wV) := by
  intro j x hx
  have hn := h.len
  rw [List.length_map] at hn
  subst hn
  have hr := h
  unfold Own at hr
  rw [List.length_map] at hr
  have hok : Ok4 W[k] := hw _ (List.getElem_mem hk)
  have e : W.getD k zero = W[k] := by simp [List.getD, List.getElem?_eq_getElem hk]
  rw [e] at hx
  have hj : j < 4 := by
    have := (List.getElem?_eq_some_iff.1 hx).1
    rw [List.length_map, hok.len] at this; exact this
  have hsz : ∀ u ∈ W.map setV, u.cells.size = 4 := by
    intro u hu
    obtain ⟨ws, hws, rfl⟩ := List.mem_map.1 hu
    exact setA_size (hw ws hws)
  have hlt : k * 4 + j < W.length * 4 := by omega
  have h2 := hr.cellAt (k * 4 + j) hlt
  have h3 := cellsOf_get hsz k (by rw [List.length_map]; exact hk) j hj
  rw [List.getElem_map] at h3
  rw [h2, h3]
  exact hx
end Dm

set_option maxRecDepth 100000 in
set_option maxHeartbeats 1600000 in
theorem dmNext_zero (fi : List Int) (vc vr vi vo vl ve vs vm vR vT : Value) (w0 w : World) (F : Nat → Prop) (hF : ∀ b, F b → b < w0.heap.size) (h3 : ((Enc.int .i64).sl 8).R F w0 [vi] fi) (hfi : ∀ x ∈ fi, 0 ≤ x ∧ x < 200) (gm : Nat) (μ : List Asrt) (h : St w0 w (aCel gm 93 #[vc, vr, vi, vo, vl, ve, vs, vm, vR, vT] :: μ)) :
    Calls Try.prog 93 #[.pointer (some ⟨gm, 0, none⟩), .int .i64 0] w fun e w' => ∃ nx, e = .returned (Dm.setV nx) ∧ Hid (Dm.Holds nx fi) ∧ Below w.heap.size w w' := by
  have HE := Lib.hid (Enc.mono _ h3 (fun _ h => h) (fun b hb => h.bel.block b (hF b hb)))
  obtain ⟨ai, bi, oi, ci, rfl, hil, i3, i4⟩ := slInt HE.out
  have I3 := Lib.hid i3; have I4 := Lib.hid i4
  have x2 := (h.nth 0 rfl).celAt (i := 2) rfl
  have hl : (fi.length : Int) ≤ 140737488355328 := by omega
  have HFI := Lib.hid hfi
  have HST := Lib.hid (((St.init w).alloc (Dm.setA Dm.zero) 177).alloc (Dm.setA Dm.zero) 177)
  simp only [World.size_alloc] at HST
  have X2 := Lib.hid x2
  have hgm := World.block_lt_of_cell? _ _ x2
  clear h3 hF hfi i3 i4 hil h
  go_enter Try.func93, Try.ntmps93
  go_wp2_with (fail)
  go_loopg [20] fi.length (fun gk v wr => ∃ (i : Nat) (ws : List Nat), i ≤ fi.length ∧ gk = fi.length - i ∧ v = .int .i64 i ∧ Hid (Dm.Holds ws (fi.take i)) ∧ St w wr [aCel (w.heap.size + 1) 177 (Dm.setA ws), aCel w.heap.size 177 (Dm.setA Dm.zero)])
  case atStart => exact ⟨0, Dm.zero, by omega, by omega, rfl, Lib.hid Dm.holds_nil, HST.out⟩
  case round =>
    clear HST
    obtain ⟨i, ws, hi, hgk, rfl, HH, hst⟩ := hrel
    have HGK := Lib.hid hgk
    clear hgk
    by_cases hlt : i < fi.length
    · obtain ⟨rfl, -, -⟩ := I3.out (by omega)
      have c0 := bkeep hst.bel (I4.out i hlt).1
      have hmem : fi.getD i 0 ∈ fi := by rw [show fi.getD i 0 = fi[i] by simp [List.getD, List.getElem?_eq_getElem hlt]]; exact List.getElem_mem hlt
      have hr := HFI.out _ hmem
      have ht : fi.take (i + 1) = fi.take i ++ [fi.getD i 0] := by
        rw [List.take_succ_eq_append_getElem hlt]; simp [List.getD, List.getElem?_eq_getElem hlt]
      generalize fi.getD i 0 = fv at *
      obtain ⟨f, rfl⟩ := Int.eq_ofNat_of_zero_le hr.1
      have hf : f < 256 := by omega
      have HHP := Lib.hid (Dm.holds_put HH.out hf)
      rw [← ht] at HHP
      have HP := Lib.hid (fun W μ g (h : St w W (aCel g 177 (Dm.setA ws) :: μ)) => setPut_any ws f hf HH.out.1 w W g μ h)
      have HST := Lib.hid hst
      clear hst hmem hr ht
      go_wp2_with (fail)
      go_at_call 96
      refine (HP.out _ _ _ HST.out).mono ?_
      rintro e w9 ⟨rfl, hst9⟩
      have HST9 := Lib.hid hst9
      clear hst9 c0
      go_wp2
      go_roundg (fi.length - (i + 1))
      case measure => have := HGK.out; omega
      case rel => exact ⟨i + 1, Dm.put ws f, by omega, rfl, by go_num, HHP, HST9.out⟩
    · obtain rfl : i = fi.length := by omega
      have hh := HH.out
      rw [List.take_length] at hh
      have HHH := Lib.hid hh
      have HS4 := Lib.hid (Dm.setA_size hh.1)
      have HZ := Lib.hid (hst.pick (ρ := [aCel w.heap.size 177 (Dm.setA Dm.zero)]) [1] 2 rfl rfl)
      have HST := Lib.hid hst
      clear hst hh
      go_wp2_with (first | (refine St.rowIn rfl 177 (.tmp 5) rfl (w.heap.size + 1) rfl _ HST.out 0 rfl Try.underlying177 rfl (by rw [HS4.out]; exact Dm.setInfo) ?_) | (refine St.rowOp rfl 177 (.tmp 4) (.tmp 27) rfl w.heap.size (Dm.setA ws) rfl rfl HZ.out (by rw [HS4.out]; exact Dm.setInfo) (by rw [HS4.out]; rfl) (Dm.setA_one ws) ?_; intro w9 hst9; have HST9 := Lib.hid hst9; clear hst9 HST HZ))
      refine bodyPost_ret (results_row rfl _ _ w.heap.size 177 _ _ rfl (HST9.out.heapAt 0 rfl) Try.underlying177 rfl (by rw [HS4.out]; exact Dm.setInfo)) rfl ?_
      exact ⟨ws, rfl, HHH, HST9.out.bel⟩

set_option maxRecDepth 100000 in
set_option maxHeartbeats 3200000 in
theorem dmNext_pos (fo : List (List Int)) (W : List (List Nat)) (k : Nat) (hk0 : 0 < k) (hk : k < W.length) (hW : ∀ ws ∈ W, Dm.Ok4 ws) (vc vr vi vo vl ve vm vR vT : Value) (w0 w : World) (F : Nat → Prop) (hF : ∀ b, F b → b < w0.heap.size) (h4 : (((Enc.int .i64).sl 8).sl 24).R F w0 [vo] fo) (hfl : fo.length ≤ 200) (hfo : ∀ i, i < fo.length → ∀ x ∈ fo.getD i [], 0 ≤ x ∧ x < 200) (gm gS c : Nat) (μ : List Asrt) (h : St w0 w (aCel gm 93 #[vc, vr, vi, vo, vl, ve, .slice (some ⟨gS, 0, none⟩) W.length c, vm, vR, vT] :: aOwn 177 4 (.slice (some ⟨gS, 0, none⟩) W.length c) (W.map Dm.setV) :: μ)) :
    Calls Try.prog 93 #[.pointer (some ⟨gm, 0, none⟩), .int .i64 k] w fun e w' => ∃ nx, e = .returned (Dm.setV nx) ∧ Hid (Dm.Holds nx (Dm.un fo (W.getD k Dm.zero) fo.length)) ∧ Below w.heap.size w w' := by
  have HE := Lib.hid (Enc.mono _ h4 (fun _ h => h) (fun b hb => h.bel.block b (hF b hb)))
  obtain ⟨ao, bo, oo, co, rfl, o3, o4⟩ := slRowsI HE.out
  have O3 := Lib.hid o3; have O4 := Lib.hid o4
  have x3 := (h.nth 0 rfl).celAt (i := 3) rfl
  have x6 := (h.nth 0 rfl).celAt (i := 6) rfl
  have HRG := Lib.hid (Dm.set_range hW (h.nth 1 rfl).own hk)
  have HOKK := Lib.hid (show Dm.Ok4 (W.getD k Dm.zero) by rw [show W.getD k Dm.zero = W[k] by simp [List.getD, List.getElem?_eq_getElem hk]]; exact hW _ (List.getElem_mem hk))
  generalize W.getD k Dm.zero = wk at *
  have HFO := Lib.hid hfo
  have HST := Lib.hid (((St.init w).alloc (Dm.setA Dm.zero) 177).alloc (Dm.setA Dm.zero) 177)
  simp only [World.size_alloc] at HST
  have X3 := Lib.hid x3; have X6 := Lib.hid x6
  have hgm := World.block_lt_of_cell? _ _ x3
  have hkb : ((k : Int) == 0) = false := by rw [beq_eq_false_iff_ne]; omega
  have hki : (k : Int) < W.length := by omega
  have hfli : (fo.length : Int) ≤ 200 := by omega
  clear h4 hF hfo o3 o4 h hW
  go_enter Try.func93, Try.ntmps93
  go_wp2_with (fail)
  go_loopg [34] fo.length (fun gk v wr => ∃ (i : Nat) (ws : List Nat), i ≤ fo.length ∧ gk = fo.length - i ∧ v = .int .i64 i ∧ Hid (Dm.Holds ws (Dm.un fo wk i)) ∧ St w wr [aCel (w.heap.size + 1) 177 (Dm.setA ws), aCel w.heap.size 177 (Dm.setA Dm.zero)])
  case atStart => exact ⟨0, Dm.zero, by omega, by omega, rfl, Lib.hid Dm.holds_nil, HST.out⟩
  case round =>
    clear HST x3 x6
    obtain ⟨i, ws, hi, hgk, rfl, HH, hst⟩ := hrel
    have HGK := Lib.hid hgk
    clear hgk
    by_cases hlt : i < fo.length
    · obtain ⟨rfl, -, -⟩ := O3.out (by omega)
      obtain ⟨al, cl, c0, henc⟩ := O4.out i hlt
      replace c0 := bkeep hst.bel c0
      have x6 := bkeep hst.bel X6.out
      have hrg := rangeAt_below hst.bel HRG.out
      have HFI := Lib.hid (HFO.out i hlt)
      have hus := Dm.un_succ fo wk i
      have HHAS := Lib.hid (fun W' => setHas_any wk i (by omega) HOKK.out W')
      generalize fo.getD i [] = l at *
      obtain ⟨_, bl, ol, _, hvl, hll, l3, l4⟩ := slInt henc
      simp only [Value.slice.injEq] at hvl
      obtain ⟨rfl, -, rfl⟩ := hvl
      have L3 := Lib.hid l3; have L4 := Lib.hid l4
      have hlb : (l.length : Int) ≤ 140737488355328 := by omega
      obtain ⟨B, hB⟩ : ∃ B, Dm.mem wk i = B := ⟨_, rfl⟩
      rw [hB] at hus HHAS
      have HUS := Lib.hid hus
      have HRG2 := Lib.hid hrg
      have HST := Lib.hid hst
      have HSZ := Lib.hid (show (Try.prog.info? 177).map (·.size) = some (wk.map Dm.wV).length by rw [List.length_map, HOKK.out.len]; exact Dm.setInfo)
      clear hst henc l3 l4 hus hB hll hrg
      go_wp2_with (refine wpList_load_mid rfl 177 (.tmp 44) rfl gS (k * 4) rfl (wk.map Dm.wV) _ HRG2.out Try.underlying177 rfl HSZ.out ?_)
      go_at_call 94
      refine (HHAS.out _).mono ?_
      rintro e w5 ⟨rfl, hb5⟩
      have HST := Lib.hid (HST.out.call hb5)
      clear hb5 c0 x6
      cases B
      · have hus := HUS.out
        simp only [Bool.false_eq_true, if_false, List.append_nil] at hus
        have HU := Lib.hid hus
        clear hus
        go_wp2
        go_roundg (fo.length - (i + 1))
        case measure => have := HGK.out; omega
        case rel => exact ⟨i + 1, ws, by omega, rfl, by go_num, by rw [HU.out]; exact HH, HST.out⟩
      · have hus := HUS.out
        simp only [if_true] at hus
        have HU := Lib.hid hus
        clear hus
        go_wp2_with (fail)
        go_loopg [50] l.length (fun gk v wr => ∃ (j : Nat) (ws : List Nat), j ≤ l.length ∧ gk = l.length - j ∧ v = .int .i64 j ∧ Hid (Dm.Holds ws (Dm.un fo wk i ++ l.take j)) ∧ St w wr [aCel (w.heap.size + 1) 177 (Dm.setA ws), aCel w.heap.size 177 (Dm.setA Dm.zero)])
        case atStart => exact ⟨0, ws, by omega, by omega, rfl, by rw [List.take_zero, List.append_nil]; exact HH, HST.out⟩
        case round =>
          clear HST HH
          obtain ⟨j, ws, hj, hgk, rfl, HH, hst⟩ := hrel
          have HGKJ := Lib.hid hgk
          clear hgk
          by_cases hltj : j < l.length
          · obtain ⟨rfl, -, -⟩ := L3.out (by omega)
            have c0 := bkeep hst.bel (L4.out j hltj).1
            have hmem : l.getD j 0 ∈ l := by rw [show l.getD j 0 = l[j] by simp [List.getD, List.getElem?_eq_getElem hltj]]; exact List.getElem_mem hltj
            have hr := HFI.out _ hmem
            have ht : l.take (j + 1) = l.take j ++ [l.getD j 0] := by
              rw [List.take_succ_eq_append_getElem hltj]; simp [List.getD, List.getElem?_eq_getElem hltj]
            generalize l.getD j 0 = fv at *
            obtain ⟨f, rfl⟩ := Int.eq_ofNat_of_zero_le hr.1
            have hf : f < 256 := by omega
            have HHP := Lib.hid (Dm.holds_put HH.out hf)
            rw [List.append_assoc, ← ht] at HHP
            have HP := Lib.hid (fun W μ g (h : St w W (aCel g 177 (Dm.setA ws) :: μ)) => setPut_any ws f hf HH.out.1 w W g μ h)
            have HST := Lib.hid hst
            clear hst hmem hr ht
            go_wp2_with (fail)
            go_at_call 96
            refine (HP.out _ _ _ HST.out).mono ?_
            rintro e w9 ⟨rfl, hst9⟩
            have HST9 := Lib.hid hst9
            clear hst9 c0
            go_wp2
            go_roundg (l.length - (j + 1))
            case measure => have := HGKJ.out; omega
            case rel => exact ⟨j + 1, Dm.put ws f, by omega, rfl, by go_num, HHP, HST9.out⟩
          · obtain rfl : j = l.length := by omega
            have hh := HH.out
            rw [List.take_length, ← HU.out] at hh
            have HHH := Lib.hid hh
            have HST := Lib.hid hst
            clear hst hh
            go_wp2
            go_roundg (fo.length - (i + 1))
            case measure => have := HGK.out; omega
            case rel => exact ⟨i + 1, ws, by omega, rfl, by go_num, HHH, HST.out⟩
    · obtain rfl : i = fo.length := by omega
      have HS4 := Lib.hid (Dm.setA_size HH.out.1)
      have HZ := Lib.hid (hst.pick (ρ := [aCel w.heap.size 177 (Dm.setA Dm.zero)]) [1] 2 rfl rfl)
      have HST := Lib.hid hst
      clear hst
      go_wp2_with (first | (refine St.rowIn rfl 177 (.tmp 5) rfl (w.heap.size + 1) rfl _ HST.out 0 rfl Try.underlying177 rfl (by rw [HS4.out]; exact Dm.setInfo) ?_) | (refine St.rowOp rfl 177 (.tmp 4) (.tmp 58) rfl w.heap.size (Dm.setA ws) rfl rfl HZ.out (by rw [HS4.out]; exact Dm.setInfo) (by rw [HS4.out]; rfl) (Dm.setA_one ws) ?_; intro w9 hst9; have HST9 := Lib.hid hst9; clear hst9 HST HZ))
      refine bodyPost_ret (results_row rfl _ _ w.heap.size 177 _ _ rfl (HST9.out.heapAt 0 rfl) Try.underlying177 rfl (by rw [HS4.out]; exact Dm.setInfo)) rfl ?_
      exact ⟨ws, rfl, HH, HST9.out.bel⟩
end Go.Proofs.Ytlgabpcddldelaa
