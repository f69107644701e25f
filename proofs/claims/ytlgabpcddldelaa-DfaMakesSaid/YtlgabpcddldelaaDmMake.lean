/-
  Make of package dfa: what it computes.
-/
import Derived.Test.YtlgabpcddldelaaDmRow
import Derived.Test.YtlgabpcddldelaaRowsE
import Derived.Test.YtlgabpcddldelaaPosnChk
import Derived.RegionTactic
import Derived.Test.YtlgabpcddldelaaCloneDat
namespace Go.Proofs.Ytlgabpcddldelaa
set_option linter.unusedVariables false
set_option linter.unusedSimpArgs false
open Go.ChangeShapes Go.WideShapes Go.ChangeAt Go.RowKit

namespace Dm
theorem In.mono {F : Nat → Prop} {w w' : World} {vc vr vi vo vl ve : Value} {P : Pn} (h : In F w vc vr vi vo vl ve P) (hF : ∀ b, F b → b < w.heap.size) (hb : Below w.heap.size w w') : In F w' vc vr vi vo vl ve P :=
  ⟨Enc.mono _ h.h1 (fun _ h => h) (fun b hb1 => hb.block b (hF b hb1)), Enc.mono _ h.h2 (fun _ h => h) (fun b hb1 => hb.block b (hF b hb1)), Enc.mono _ h.h3 (fun _ h => h) (fun b hb1 => hb.block b (hF b hb1)), Enc.mono _ h.h4 (fun _ h => h) (fun b hb1 => hb.block b (hF b hb1)), Enc.mono _ h.h5 (fun _ h => h) (fun b hb1 => hb.block b (hF b hb1)), Enc.mono _ h.h6 (fun _ h => h) (fun b hb1 => hb.block b (hF b hb1))⟩
theorem good_of {P : Pn} (h : Pl.err P.cl.length P.ru P.fi P.fo P.la.length P.em.length = 0) : Good P := by
  obtain ⟨⟨h1, h2, h3, h4, h5, h6⟩, h7, h8⟩ := Pl.err_zero h
  refine ⟨h8, h1, h2, h3, h4, h5, fun i hi => ⟨(h7 i hi).1, (h7 i hi).2.1⟩, fun x hx => ?_, fun i hi x hx => ?_⟩
  · have := Pl.rise_mem h6 x hx; omega
  · have := Pl.rise_mem (h7 i hi).2.2 x hx; omega
theorem keep1 {w : World} {o : Obj} {b i : Nat} {v : Value} (h : w.cell? ⟨b, i, none⟩ = some v) : (w.alloc o).cell? ⟨b, i, none⟩ = some v := bkeep ((Below.refl _ _).alloc (Nat.le_refl _) _) h
theorem sets_stop' {P : Pn} {k m : Nat} (h : (sets P k).length ≤ k) (hm : k ≤ m) : sets P m = sets P k := by
  induction hm with
  | refl => rfl
  | step hm ih =>
    rename_i m
    have : k ≤ m := hm
    rw [sets, ih, if_neg (by omega)]
theorem sets_lt {P : Pn} {k n : Nat} (hk : k < n) (hn : n ≤ (sets P n).length) : k < (sets P k).length := by
  apply Decidable.byContradiction
  intro h
  have e := sets_stop' (P := P) (k := k) (m := n) (by omega) (by omega)
  rw [e] at hn
  omega
theorem rowK_wf (P : Pn) (k : Nat) (fr : List Nat) (S : List (List Nat)) (h0 : 0 < S.length) (b : Nat) : ∀ x ∈ (rowK P k fr S b).2, -1 ≤ x ∧ x ≤ (rowK P k fr S b).1.length := by
  induction b with
  | zero => intro x hx; cases hx
  | succ b ih =>
    have hm := rowK_mono P k fr S (Nat.le_succ b)
    have h1 := rowK_len_le P k fr S b
    intro x hx
    rw [rowK_succ] at hx hm ⊢
    unfold step at hx hm ⊢
    simp only at hx hm ⊢
    split at hx
    · rename_i e
      rw [if_pos e] at hm ⊢
      rcases List.mem_append.1 hx with hx | hx
      · have := ih x hx; simp only at hm ⊢; omega
      · rw [List.mem_singleton] at hx; subst hx; simp only; omega
    · rename_i e
      rw [if_neg e] at hm ⊢
      have hle := at_le (S := (rowK P k fr S b).1) (t := to' P k fr b) (by omega)
      rcases List.mem_append.1 hx with hx | hx
      · have := ih x hx; simp only at hm ⊢; omega
      · rw [List.mem_singleton] at hx; subst hx; simp only at hm ⊢; omega
theorem rows_wf (P : Pn) {n : Nat} (hn : n ≤ (sets P n).length) (h200 : (sets P n).length ≤ 200) : ∀ r ∈ rows P n, r.length = 256 ∧ ∀ x ∈ r, (Lit.int .i16 x).wf = true := by
  intro r hr
  obtain ⟨k, hk, rfl⟩ := List.mem_map.1 hr
  have hkn := List.mem_range.1 hk
  have hlt := sets_lt hkn hn
  refine ⟨rowK_row_len .., fun x hx => ?_⟩
  have h1 := rowK_wf P k ((sets P k).getD k []) (sets P k) (sets_ne P k) 256 x hx
  rw [← sets_succ hlt] at h1
  have h2 := sets_len_le P (show k + 1 ≤ n from hkn)
  simp [Lit.wf, IntKind.min, IntKind.max, IntKind.signed, IntKind.bits]
  omega
theorem least_wf (P : Pn) (he : P.em.length ≤ 20) (l : List Nat) (e : Bool) : (Lit.int .i64 (least P l e)).wf = true := by
  have : -1 ≤ least P l e ∧ least P l e ≤ 20 := by
    unfold least
    split
    · rename_i i h
      have := List.mem_range.1 (List.mem_of_find?_eq_some h)
      omega
    · omega
  simp [Lit.wf, IntKind.min, IntKind.max, IntKind.signed, IntKind.bits]
  omega
theorem tags_wf (P : Pn) (he : P.em.length ≤ 20) (S : List (List Nat)) : ∀ x ∈ tags P S, (Lit.int .i64 x).wf = true := by
  intro x hx
  unfold tags at hx
  rcases List.mem_cons.1 hx with rfl | hx
  · exact least_wf P he _ _
  · obtain ⟨s, _, rfl⟩ := List.mem_map.1 hx
    exact least_wf P he _ _
theorem rowC_ones (l : List Int) : ∀ q ∈ (Value.agg (rowC l)).cells.toList, q.oneCell' = true := by
  intro q hq
  simp only [Value.cells, rowC, List.mem_map] at hq
  obtain ⟨n, _, rfl⟩ := hq
  rfl
theorem rowC_full {l : List Int} (h : l.length = 256) : Value.agg (rowC l) = Wd.rowV l := by
  unfold rowC Wd.rowV
  rw [h]
  simp
/-- What Make hands back. -/
def Res (w : World) (e : Ending) : Option (List (List Int) × List Int) → Prop
  | none => e = .returned (.tuple #[.agg #[.slice none 0 0, .slice none 0 0], .int .i64 8])
  | some (rows, tags) => ∃ v0 v1, e = .returned (.tuple #[.agg #[v0, v1], .int .i64 0]) ∧ Sl w 256 (RRow .i16 256) v0 rows ∧ Sl w 1 (RInt .i64) v1 tags
end Dm

set_option maxRecDepth 100000 in
theorem dmMake_bad (P : Dm.Pn) (vc vr vi vo vl ve : Value) (w : World) (F : Nat → Prop) (hF : ∀ b, F b → b < w.heap.size) (hin : Dm.In F w vc vr vi vo vl ve P) (E : Int) (hE : Pl.err P.cl.length P.ru P.fi P.fo P.la.length P.em.length = E) (he : (E == 0) = false) :
    Calls Try.prog 9 #[.agg #[vc, vr, vi, vo, vl, ve]] w fun e w' => e = .returned (.tuple #[.agg #[.slice none 0 0, .slice none 0 0], .int .i64 E]) ∧ Below w.heap.size w w' := by
  have HST := Lib.hid ((((St.init w).alloc #[vc, vr, vi, vo, vl, ve] 27)).alloc #[.slice none 0 0, .slice none 0 0] 30)
  simp only [World.size_alloc] at HST
  have HC := Lib.hid (fun W (hW : Below w.heap.size w W) => posnChk_any vc vr vi vo vl ve P.cl P.ru P.fi P.fo P.la P.em W F (fun b hb => Nat.lt_of_lt_of_le (hF b hb) hW.size) (hin.mono hF hW).h1 (hin.mono hF hW).h2 (hin.mono hF hW).h3 (hin.mono hF hW).h4 (hin.mono hF hW).h5 (hin.mono hF hW).h6)
  rw [hE] at HC
  clear hE
  go_enter Try.func9, Try.ntmps9
  go_wp2_with (fail)
  go_at_call 38
  refine (HC.out _ HST.out.bel).mono ?_
  rintro e w1 ⟨rfl, hb1⟩
  have hst := HST.out.call hb1
  have xr0 := (hst.nth 0 rfl).celAt (i := 0) rfl
  have xr1 := (hst.nth 0 rfl).celAt (i := 1) rfl
  have xf0 := (hst.nth 0 rfl).celFree 0
  have xf1 := (hst.nth 0 rfl).celFree 1
  have HST1 := Lib.hid ((hst.setCel 0 (.slice none 0 0)).setCel 1 (.slice none 0 0))
  clear hst hb1 HST
  go_wp2
  have r0 := (HST1.out.nth 0 rfl).celAt (i := 0) (v := .slice none 0 0) rfl
  have r1 := (HST1.out.nth 0 rfl).celAt (i := 1) (v := .slice none 0 0) rfl
  exact bodyPost_ret (v := .tuple #[.agg #[.slice none 0 0, .slice none 0 0], .int .i64 E]) (by simp [results, Try.results9, go_sem, r0, r1]) rfl ⟨rfl, HST1.out.bel⟩

set_option maxRecDepth 100000 in
set_option maxHeartbeats 4000000 in
theorem dmMake_ok (P : Dm.Pn) (vc vr vi vo vl ve : Value) (w : World) (F : Nat → Prop) (hF : ∀ b, F b → b < w.heap.size) (hin : Dm.In F w vc vr vi vo vl ve P) (he : Pl.err P.cl.length P.ru P.fi P.fo P.la.length P.em.length = 0) :
    Calls Try.prog 9 #[.agg #[vc, vr, vi, vo, vl, ve]] w fun e w' => ∃ o, Hid (Dm.Says P o) ∧ Dm.Res w' e o ∧ Below w.heap.size w w' := by
  have HST := Lib.hid ((((St.init w).alloc #[vc, vr, vi, vo, vl, ve] 27)).alloc #[.slice none 0 0, .slice none 0 0] 30)
  simp only [World.size_alloc] at HST
  have HC := Lib.hid (fun W (hW : Below w.heap.size w W) => posnChk_any vc vr vi vo vl ve P.cl P.ru P.fi P.fo P.la P.em W F (fun b hb => Nat.lt_of_lt_of_le (hF b hb) hW.size) (hin.mono hF hW).h1 (hin.mono hF hW).h2 (hin.mono hF hW).h3 (hin.mono hF hW).h4 (hin.mono hF hW).h5 (hin.mono hF hW).h6)
  have HG := Lib.hid (Dm.good_of he)
  rw [he] at HC
  have HIN := Lib.hid hin
  have HF := Lib.hid hF
  clear he hin hF
  have hmm := @run_makeMap Try.prog
  have hmk : ∀ W : World, (Instr.makeSlice 90 (.int .i64 1) (.int .i64 1)).run Try.prog W = .ok (.slice (some ⟨W.heap.size, 0, none⟩) 1 1) (W.alloc (.cells #[.int .u64 0, .int .u64 0, .int .u64 0, .int .u64 0] 177)) := fun _ => by kernel_rfl
  go_enter Try.func9, Try.ntmps9
  go_wp2_with (fail)
  go_at_call 38
  refine (HC.out _ HST.out.bel).mono ?_
  rintro e w1 ⟨rfl, hb1⟩
  have hst := (HST.out.call hb1).drew
  have p0 := (hst.nth 1 rfl).celAt (i := 0) (v := vc) rfl
  have p1 := (hst.nth 1 rfl).celAt (i := 1) (v := vr) rfl
  have p2 := (hst.nth 1 rfl).celAt (i := 2) (v := vi) rfl
  have p3 := (hst.nth 1 rfl).celAt (i := 3) (v := vo) rfl
  have p4 := (hst.nth 1 rfl).celAt (i := 4) (v := vl) rfl
  have p5 := (hst.nth 1 rfl).celAt (i := 5) (v := ve) rfl
  have HST1 := Lib.hid hst
  clear hst hb1 HST HC
  go_wp2
  refine wp_region_held_drew (S := (fun w' => w'.cell? ⟨w.heap.size, 0, none⟩ = some vc ∧ w'.cell? ⟨w.heap.size, 1, none⟩ = some vr ∧ w'.cell? ⟨w.heap.size, 2, none⟩ = some vi ∧ w'.cell? ⟨w.heap.size, 3, none⟩ = some vo ∧ w'.cell? ⟨w.heap.size, 4, none⟩ = some vl ∧ w'.cell? ⟨w.heap.size, 5, none⟩ = some ve)) (by kernel_rfl) ?_ (fun hHeld => ?_)
  · (try dsimp only); (refine ⟨?_, ?_, ?_, ?_, ?_, ?_⟩ <;> first | assumption | (apply Dm.keep1; assumption) | (apply Dm.keep1; apply Dm.keep1; assumption) | (apply Dm.keep1; apply Dm.keep1; apply Dm.keep1; assumption))

  refine wpAnyH_take (i := 0) (v := ?_) rfl (by kernel_rfl) (by kernel_rfl) (by kernel_rfl) (fun _ _ _ h => h) (Or.inl ⟨by rfl, ?_⟩) (by assumption) ?_
  rotate_left; focus (intro w hSw; (try dsimp only at hSw); go_simp; try (with_reducible rfl); done)
  try simp only [List.getElem_toArray, List.getElem_cons_zero, List.getElem_cons_succ, Act.put, List.setIfInBounds_toArray, List.set_cons_zero, List.set_cons_succ]
  refine wpAnyH_ready (rs := [1, 2]) (by kernel_rfl) (by simp) ?_
  refine AllReadyH.cons rfl (fun K hK => ?_) (AllReadyH.cons rfl (fun K hK => ?_) (AllReadyH.nil))
  · skip
    go_simp
    refine hK.out _ _ ?_ (fun hHeld => ?_)
    · (try dsimp only); (refine ⟨?_, ?_, ?_, ?_, ?_, ?_⟩ <;> first | assumption | (apply Dm.keep1; assumption) | (apply Dm.keep1; apply Dm.keep1; assumption) | (apply Dm.keep1; apply Dm.keep1; apply Dm.keep1; assumption))
    clear hK K
    try simp only [List.getElem_toArray, List.getElem_cons_zero, List.getElem_cons_succ, Act.put, List.setIfInBounds_toArray, List.set_cons_zero, List.set_cons_succ]
    refine wpAnyH_ready (rs := [2]) (by kernel_rfl) (by simp) ?_
    refine AllReadyH.cons rfl (fun K hK => ?_) (AllReadyH.nil)
    go_simp
    refine hK.out _ _ ?_ (fun hHeld => ?_)
    · (try dsimp only); (refine ⟨?_, ?_, ?_, ?_, ?_, ?_⟩ <;> first | assumption | (apply Dm.keep1; assumption) | (apply Dm.keep1; apply Dm.keep1; assumption) | (apply Dm.keep1; apply Dm.keep1; apply Dm.keep1; assumption))
    clear hK K
    try simp only [List.getElem_toArray, List.getElem_cons_zero, List.getElem_cons_succ, Act.put, List.setIfInBounds_toArray, List.set_cons_zero, List.set_cons_succ]
    refine wpAnyH_take (i := 3) (v := ?_) rfl (by kernel_rfl) (by kernel_rfl) (by kernel_rfl) (fun _ _ _ h => h) (Or.inl ⟨by rfl, ?_⟩) (by assumption) ?_
    rotate_left; focus (intro w hSw; (try dsimp only at hSw); go_simp; try (with_reducible rfl); done)
    try simp only [List.getElem_toArray, List.getElem_cons_zero, List.getElem_cons_succ, Act.put, List.setIfInBounds_toArray, List.set_cons_zero, List.set_cons_succ]
    refine wpAnyH_ready (rs := [4]) (by kernel_rfl) (by simp) ?_
    refine AllReadyH.cons rfl (fun K hK => ?_) AllReadyH.nil
    go_simp
    refine hK.out _ _ ?_ (fun hHeld => ?_)
    · (try dsimp only); (refine ⟨?_, ?_, ?_, ?_, ?_, ?_⟩ <;> first | assumption | (apply Dm.keep1; assumption) | (apply Dm.keep1; apply Dm.keep1; assumption) | (apply Dm.keep1; apply Dm.keep1; apply Dm.keep1; assumption))
    clear hK K
    try simp only [List.getElem_toArray, List.getElem_cons_zero, List.getElem_cons_succ, Act.put, List.setIfInBounds_toArray, List.set_cons_zero, List.set_cons_succ]
    refine wpAnyH_take (i := 5) (v := ?_) rfl (by kernel_rfl) (by kernel_rfl) (by kernel_rfl) (fun _ _ _ h => h) (Or.inl ⟨by rfl, ?_⟩) (by assumption) ?_
    rotate_left; focus (intro w hSw; (try dsimp only at hSw); go_simp; try (with_reducible rfl); done)
    try simp only [List.getElem_toArray, List.getElem_cons_zero, List.getElem_cons_succ, Act.put, List.setIfInBounds_toArray, List.set_cons_zero, List.set_cons_succ]
    refine wpAnyH_done (by kernel_rfl) ?_ _
    have hst2 := ((((HST1.out.alloc #[.int .u64 0, .int .u64 0, .int .u64 0, .int .u64 0] 177).turn (A' := aOwn 177 4 (.slice (some ⟨w1.heap.size, 0, none⟩) 1 1) [Dm.setV Dm.zero]) rfl (Own.one (u := Dm.setV Dm.zero) (heap_alloc_new _ _) rfl)).makeMap 177 3).alloc #[vc, vr, vi, vo, vl, ve, .slice (some ⟨w1.heap.size, 0, none⟩) 1 1, .map (some (w1.heap.size + 1)), .slice none 0 0, .slice none 0 0] 93).pick [0, 2, 1] 3 rfl rfl
    simp only [World.size_alloc, World.size_drew] at hst2
    have hst3 : St w ((((w1.alloc (.cells #[.int .u64 0, .int .u64 0, .int .u64 0, .int .u64 0] 177)).alloc (.map #[] 0)).alloc (.cells #[vc, vr, vi, vo, vl, ve, .slice (some ⟨w1.heap.size, 0, none⟩) 1 1, .map (some (w1.heap.size + 1)), .slice none 0 0, .slice none 0 0] 93)).drew) [aCel (w1.heap.size + 1 + 1) 93 #[vc, vr, vi, vo, vl, ve, .slice (some ⟨w1.heap.size, 0, none⟩) 1 1, .map (some (w1.heap.size + 1)), .slice none 0 0, .slice none 0 0], aOwn 177 4 (.slice (some ⟨w1.heap.size, 0, none⟩) 1 1) [Dm.setV Dm.zero], aMap 177 3 (w1.heap.size + 1) 0 (.map []), aCel (w.heap.size + 1) 30 #[.slice none 0 0, .slice none 0 0], aCel w.heap.size 27 #[vc, vr, vi, vo, vl, ve]] := hst2
    clear hst2
    generalize (((w1.alloc (.cells #[.int .u64 0, .int .u64 0, .int .u64 0, .int .u64 0] 177)).alloc (.map #[] 0)).alloc (.cells #[vc, vr, vi, vo, vl, ve, .slice (some ⟨w1.heap.size, 0, none⟩) 1 1, .map (some (w1.heap.size + 1)), .slice none 0 0, .slice none 0 0] 93)).drew = W2 at *
    generalize w1.heap.size + 1 + 1 = gm at *
    generalize w1.heap.size + 1 = gM at *
    generalize w1.heap.size = gS at *
    clear hHeld p0 p1 p2 p3 p4 p5 HST1
    have HST3 := Lib.hid hst3
    clear hst3
    have hst4 := (HST3.out.alloc #[.int .i64 (-1)] 3).turn (A' := aOwn 3 1 (.slice (some ⟨W2.heap.size, 0, none⟩) 1 1) [.int .i64 (-1)]) rfl (Own.one (u := .int .i64 (-1)) (heap_alloc_new _ _) rfl)
    have x9 := (hst4.nth 1 rfl).celAt (i := 9) (v := .slice none 0 0) rfl
    have xf9 := (hst4.nth 1 rfl).celFree 9
    have HST4 := Lib.hid (hst4.get2.setCel 9 (.slice (some ⟨W2.heap.size, 0, none⟩) 1 1))
    have h6 := HIN.out.h6
    obtain ⟨ae, be, oe, ce, rfl, -, e3, e4⟩ := slBool h6
    have E3 := Lib.hid e3
    have E4 := Lib.hid e4
    clear h6 e3 e4
    have x5 := (HST4.out.nth 5 rfl).celAt (i := 5) (v := .slice ae P.em.length ce) rfl
    have hel : (P.em.length : Int) ≤ 20 := by have := HG.out.he2; omega
    clear hst4 HST3
    go_wp2_with (fail)
    go_loopg [6] P.em.length (fun gz v wr => ∃ (j : Nat), j ≤ P.em.length ∧ gz = P.em.length - j ∧ v = .int .i64 ((P.em.length : Int) - 1 - j) ∧ St w wr [aCel gm 93 #[vc, vr, vi, vo, vl, .slice ae P.em.length ce, .slice (some ⟨gS, 0, none⟩) 1 1, .map (some gM), .slice none 0 0, .slice (some ⟨W2.heap.size, 0, none⟩) 1 1], aOwn 3 1 (.slice (some ⟨W2.heap.size, 0, none⟩) 1 1) ([Dm.tag0 P.em j].map (Value.int .i64)), aOwn 177 4 (.slice (some ⟨gS, 0, none⟩) 1 1) [Dm.setV Dm.zero], aMap 177 3 gM 0 (.map []), aCel (w.heap.size + 1) 30 #[.slice none 0 0, .slice none 0 0], aCel w.heap.size 27 #[vc, vr, vi, vo, vl, .slice ae P.em.length ce]])
    case atStart => exact ⟨0, by omega, by omega, by go_num, HST4.out⟩
    case round =>
      clear HST4 x9 xf9 x5
      obtain ⟨j, hj, hgz, rfl, hst⟩ := hrel
      have HGZ := Lib.hid hgz
      clear hgz
      by_cases hlt : j < P.em.length
      · obtain ⟨i, hi⟩ : ∃ i : Nat, P.em.length - 1 - j = i := ⟨_, rfl⟩
        have hiI : (P.em.length : Int) - 1 - j = i := by omega
        have hil : i < P.em.length := by omega
        rw [hiI]
        have HII := Lib.hid hiI
        have HT := Lib.hid (show Dm.tag0 P.em (j + 1) = if P.em.getD i false = true then (i : Int) else Dm.tag0 P.em j by rw [Dm.tag0, hi])
        obtain ⟨rfl, -, -⟩ := E3.out (by omega)
        have c0 := bkeep hst.bel (E4.out i hil)
        clear hi hiI
        have x9 := (hst.nth 0 rfl).celAt (i := 9) (v := .slice (some ⟨W2.heap.size, 0, none⟩) 1 1) rfl
        have x5 := (hst.nth 5 rfl).celAt (i := 5) (v := .slice (some ⟨be, oe, none⟩) P.em.length ce) rfl
        have t0 := (hst.get2.cellOwn (f := Value.int .i64) (fun _ => rfl) 0 (by simp) 0).1
        have tf0 := (hst.get2.cellOwn (f := Value.int .i64) (fun _ => rfl) 0 (by simp) 0).2
        have hiI2 : (i : Int) < P.em.length := by omega
        cases hB : P.em.getD i false
        · rw [hB] at c0 HT
          have hu := HT.out
          simp only [Bool.false_eq_true, if_false] at hu
          have HU := Lib.hid hu
          have HST := Lib.hid hst
          clear hu hst hB t0 tf0
          go_wp2
          go_roundg (P.em.length - (j + 1))
          case measure => have := HGZ.out; omega
          case rel => exact ⟨j + 1, by omega, rfl, congrArg (Value.int .i64) (by have := HII.out; omega), by rw [HU.out]; exact HST.out⟩
        · rw [hB] at c0 HT
          have hu := HT.out
          simp only [if_true] at hu
          have HU := Lib.hid hu
          have HST := Lib.hid (hst.get2.setOwn (f := Value.int .i64) (fun _ => rfl) 0 (i : Int)).get2
          clear hu hst hB
          go_wp2
          go_roundg (P.em.length - (j + 1))
          case measure => have := HGZ.out; omega
          case rel => exact ⟨j + 1, by omega, rfl, congrArg (Value.int .i64) (by have := HII.out; omega), by rw [HU.out]; exact HST.out⟩
      · have hje : j = P.em.length := by omega
        rw [hje, Dm.tag0_least] at hst
        have HJE := Lib.hid (show (P.em.length : Int) - 1 - j < 0 by omega)
        have hneg : (P.em.length : Int) - 1 - j < 0 := by omega
        have HST5 := Lib.hid ((hst.nilOwn 96 256).pick (ρ := Dm.base gm gS 1 gM ((Dm.sets P 0).length - 1) vc vr vi vo vl (.slice ae P.em.length ce) (.slice none 0 0) (.slice (some ⟨W2.heap.size, 0, none⟩) 1 1) ((Dm.sets P 0).map Dm.ofL) (.map []) (Dm.tags P (Dm.sets P 0)) (aOwn 96 256 (.slice none 0 0) ((Dm.rows P 0).map Wd.rowV) :: aCel (w.heap.size + 1) 30 #[.slice none 0 0, .slice none 0 0] :: [])) [1, 3, 4, 2, 0, 5] 7 rfl rfl)
        clear hst hje
        go_wp2_with (fail)
        go_loopg [7] 201 (fun gz v wr => ∃ (n gS cS : Nat) (D : DataW Unit) (vR vT : Value), n ≤ (Dm.sets P n).length ∧ (Dm.sets P n).length ≤ 200 ∧ gz = 201 - n ∧ v = .int .i64 n ∧ Hid (Tells 177 Dm.setV D (Dm.tabOf (Dm.sets P n))) ∧
          St w wr (Dm.base gm gS cS gM ((Dm.sets P n).length - 1) vc vr vi vo vl (.slice ae P.em.length ce) vR vT ((Dm.sets P n).map Dm.ofL) D (Dm.tags P (Dm.sets P n)) (aOwn 96 256 vR ((Dm.rows P n).map Wd.rowV) :: aCel (w.heap.size + 1) 30 #[.slice none 0 0, .slice none 0 0] :: [])))
        case atStart => exact ⟨0, gS, 1, .map [], .slice none 0 0, _, by simp, by simp [Dm.sets], by omega, rfl, Lib.hid Tells.nil, HST5.out⟩
        case round =>
          clear HST5 hneg hlt hj
          obtain ⟨n, gS, cS, D, vR, vT, hn1, hn2, hgz, rfl, HD, hst⟩ := hrel
          have HGZ2 := Lib.hid hgz
          clear hgz
          have hlm : (((Dm.sets P n).map Dm.ofL).length : Int) ≤ 200 := by rw [List.length_map]; omega
          have x6 := (hst.nth 0 rfl).celAt (i := 6) (v := .slice (some ⟨gS, 0, none⟩) ((Dm.sets P n).map Dm.ofL).length cS) rfl
          by_cases hlt : n < (Dm.sets P n).length
          · have hlI : (n : Int) < (Dm.sets P n).length := by omega
            have x8 := (hst.drew.nth 0 rfl).celAt (i := 8) (v := vR) rfl
            have HROW := Lib.hid (fun W μ h => dmRow_any P HG.out n (Dm.sets P n) hlt ((Dm.sets P n).getD n []) rfl hn2 (Dm.sel_sets P n) gm gS cS gM D HD.out vc vr vi vo vl (.slice ae P.em.length ce) vR vT w W F HF.out HIN.out μ h)
            have HRL := Lib.hid (show ((Dm.rows P n).map Wd.rowV).length = n by simp [Dm.rows])
            have HSS := Lib.hid (Dm.sets_succ (P := P) (k := n) hlt)
            have HST := Lib.hid hst.drew
            clear hst
            go_wp2_with (fail)
            refine wp_region_held_drew (S := (fun w' => True)) (by kernel_rfl) ?_ (fun hHeld => ?_)
            · (try dsimp only); (first | done | exact trivial)

            refine wpAnyH_take (i := 0) (v := ?_) rfl (by kernel_rfl) (by kernel_rfl) (by kernel_rfl) (fun _ _ _ h => h) (Or.inl ⟨by rfl, ?_⟩) (by assumption) ?_
            rotate_left; focus (intro w hSw; (try dsimp only at hSw); go_simp; try (with_reducible rfl); done)
            try simp only [List.getElem_toArray, List.getElem_cons_zero, List.getElem_cons_succ, Act.put, List.setIfInBounds_toArray, List.set_cons_zero, List.set_cons_succ]
            refine wpAnyH_take (i := 1) (v := ?_) rfl (by kernel_rfl) (by kernel_rfl) (by kernel_rfl) (fun _ _ _ h => h) (Or.inl ⟨by rfl, ?_⟩) (by assumption) ?_
            rotate_left; focus (intro w hSw; (try dsimp only at hSw); go_simp; try (with_reducible rfl); done)
            try simp only [List.getElem_toArray, List.getElem_cons_zero, List.getElem_cons_succ, Act.put, List.setIfInBounds_toArray, List.set_cons_zero, List.set_cons_succ]
            refine wpAnyH_take (i := 2) (v := ?_) rfl (by kernel_rfl) (by kernel_rfl) (by kernel_rfl) (fun _ _ _ h => h) (Or.inl ⟨by rfl, ?_⟩) (by assumption) ?_
            rotate_left; focus (intro w hSw; (try dsimp only at hSw); go_simp; try (with_reducible rfl); done)
            try simp only [List.getElem_toArray, List.getElem_cons_zero, List.getElem_cons_succ, Act.put, List.setIfInBounds_toArray, List.set_cons_zero, List.set_cons_succ]
            refine wpAnyH_take (i := 3) (v := ?_) rfl (by kernel_rfl) (by kernel_rfl) (by kernel_rfl) (fun _ _ _ h => h) (Or.inl ⟨by rfl, ?_⟩) (by assumption) ?_
            rotate_left; focus (intro w hSw; (try dsimp only at hSw); go_simp; try (with_reducible rfl); done)
            try simp only [List.getElem_toArray, List.getElem_cons_zero, List.getElem_cons_succ, Act.put, List.setIfInBounds_toArray, List.set_cons_zero, List.set_cons_succ]
            refine wpAnyH_take (i := 4) (v := ?_) rfl (by kernel_rfl) (by kernel_rfl) (by kernel_rfl) (fun _ _ _ h => h) (Or.inl ⟨by rfl, ?_⟩) (by assumption) ?_
            rotate_left; focus (intro w hSw; (try dsimp only at hSw); go_simp; try (with_reducible rfl); done)
            try simp only [List.getElem_toArray, List.getElem_cons_zero, List.getElem_cons_succ, Act.put, List.setIfInBounds_toArray, List.set_cons_zero, List.set_cons_succ]
            refine wpAnyH_take (i := 6) (v := ?_) rfl (by kernel_rfl) (by kernel_rfl) (by kernel_rfl) (fun _ _ _ h => h) (Or.inl ⟨by rfl, ?_⟩) (by assumption) ?_
            rotate_left; focus (intro w hSw; (try dsimp only at hSw); go_simp; try (with_reducible rfl); done)
            try simp only [List.getElem_toArray, List.getElem_cons_zero, List.getElem_cons_succ, Act.put, List.setIfInBounds_toArray, List.set_cons_zero, List.set_cons_succ]
            refine wpAnyH_take (i := 7) (v := ?_) rfl (by kernel_rfl) (by kernel_rfl) (by kernel_rfl) (fun _ _ _ h => h) (Or.inl ⟨by rfl, ?_⟩) (by assumption) ?_
            rotate_left; focus (intro w hSw; (try dsimp only at hSw); go_simp; try (with_reducible rfl); done)
            try simp only [List.getElem_toArray, List.getElem_cons_zero, List.getElem_cons_succ, Act.put, List.setIfInBounds_toArray, List.set_cons_zero, List.set_cons_succ]
            refine wpAnyH_ready (rs := [5, 8]) (by kernel_rfl) (by simp) ?_
            refine AllReadyH.cons rfl (fun K hK => ?_) (AllReadyH.cons rfl (fun K hK => ?_) (AllReadyH.nil))
            · skip
              go_simp
              refine hK.out _ _ ?_ (fun hHeld => ?_)
              · (try dsimp only); (first | done | exact trivial)
              clear hK K
              try simp only [List.getElem_toArray, List.getElem_cons_zero, List.getElem_cons_succ, Act.put, List.setIfInBounds_toArray, List.set_cons_zero, List.set_cons_succ]
              refine wpAnyH_ready (rs := [8]) (by kernel_rfl) (by simp) ?_
              refine AllReadyH.cons rfl (fun K hK => ?_) (AllReadyH.nil)
              go_simp
              (first | (go_at_call 39; refine (HROW.out _ _ HST.out).mono ?_; rintro e w5 ⟨b, gS5, cS5, D5, vT5, l, HEND, rfl, hst5⟩; have x8 := (hst5.nth 0 rfl).celAt (i := 8) (v := vR) rfl; have HST5 := Lib.hid hst5; clear hst5) | (refine stepOne rowE rfl (.tmp 61) rfl (Dm.rowC l) rfl (Dm.rowC_size HEND.out.2.1) (by decide) ?_; have x8 := Dm.keep1 (o := .cells (Dm.rowC l) 96) x8) | (refine St.step1n (W := w5) (T := 96) (cs := Dm.rowC l) rowE rfl (.tmp 58) (.tmp 62) rfl rfl (HST5.out.pick (ρ := aOwn 96 256 vR ((Dm.rows P n).map Wd.rowV) :: _) [4, 0, 1, 2, 3, 5] 6 rfl rfl) (.agg (Dm.rowC l)) rfl w5.heap.size 1 rfl rfl (Dm.rowC_size HEND.out.2.1) (Dm.rowC_ones l) (by rw [HRL.out]; unfold maxLen; omega) (by rw [HRL.out]; omega) ?_; intro g' n' c' wB hstB; have xf8 := (hstB.nth 1 rfl).celFree 8; have x8 := (hstB.nth 1 rfl).celAt (i := 8) (v := vR) rfl; have HSTB := Lib.hid (hstB.get2.setCel 8 (.slice (some ⟨g', 0, none⟩) n' c')); clear hstB))
              refine hK.out _ _ ?_ (fun hHeld => ?_)
              · (try dsimp only); (first | done | exact trivial)
              clear hK K
              try simp only [List.getElem_toArray, List.getElem_cons_zero, List.getElem_cons_succ, Act.put, List.setIfInBounds_toArray, List.set_cons_zero, List.set_cons_succ]
              refine wpAnyH_ready (rs := [9]) (by kernel_rfl) (by simp) ?_
              refine AllReadyH.cons rfl (fun K hK => ?_) (AllReadyH.nil)
              (first | (go_at_call 39; refine (HROW.out _ _ HST.out).mono ?_; rintro e w5 ⟨b, gS5, cS5, D5, vT5, l, HEND, rfl, hst5⟩; have x8 := (hst5.nth 0 rfl).celAt (i := 8) (v := vR) rfl; have HST5 := Lib.hid hst5; clear hst5) | (refine stepOne rowE rfl (.tmp 61) rfl (Dm.rowC l) rfl (Dm.rowC_size HEND.out.2.1) (by decide) ?_; have x8 := Dm.keep1 (o := .cells (Dm.rowC l) 96) x8) | (refine St.step1n (W := w5) (T := 96) (cs := Dm.rowC l) rowE rfl (.tmp 58) (.tmp 62) rfl rfl (HST5.out.pick (ρ := aOwn 96 256 vR ((Dm.rows P n).map Wd.rowV) :: _) [4, 0, 1, 2, 3, 5] 6 rfl rfl) (.agg (Dm.rowC l)) rfl w5.heap.size 1 rfl rfl (Dm.rowC_size HEND.out.2.1) (Dm.rowC_ones l) (by rw [HRL.out]; unfold maxLen; omega) (by rw [HRL.out]; omega) ?_; intro g' n' c' wB hstB; have xf8 := (hstB.nth 1 rfl).celFree 8; have x8 := (hstB.nth 1 rfl).celAt (i := 8) (v := vR) rfl; have HSTB := Lib.hid (hstB.get2.setCel 8 (.slice (some ⟨g', 0, none⟩) n' c')); clear hstB))
              refine hK.out _ _ ?_ (fun hHeld => ?_)
              · (try dsimp only); (first | done | exact trivial)
              clear hK K
              try simp only [List.getElem_toArray, List.getElem_cons_zero, List.getElem_cons_succ, Act.put, List.setIfInBounds_toArray, List.set_cons_zero, List.set_cons_succ]
              refine wpAnyH_ready (rs := [10]) (by kernel_rfl) (by simp) ?_
              refine AllReadyH.cons rfl (fun K hK => ?_) AllReadyH.nil
              (first | (go_at_call 39; refine (HROW.out _ _ HST.out).mono ?_; rintro e w5 ⟨b, gS5, cS5, D5, vT5, l, HEND, rfl, hst5⟩; have x8 := (hst5.nth 0 rfl).celAt (i := 8) (v := vR) rfl; have HST5 := Lib.hid hst5; clear hst5) | (refine stepOne rowE rfl (.tmp 61) rfl (Dm.rowC l) rfl (Dm.rowC_size HEND.out.2.1) (by decide) ?_; have x8 := Dm.keep1 (o := .cells (Dm.rowC l) 96) x8) | (refine St.step1n (W := w5) (T := 96) (cs := Dm.rowC l) rowE rfl (.tmp 58) (.tmp 62) rfl rfl (HST5.out.pick (ρ := aOwn 96 256 vR ((Dm.rows P n).map Wd.rowV) :: _) [4, 0, 1, 2, 3, 5] 6 rfl rfl) (.agg (Dm.rowC l)) rfl w5.heap.size 1 rfl rfl (Dm.rowC_size HEND.out.2.1) (Dm.rowC_ones l) (by rw [HRL.out]; unfold maxLen; omega) (by rw [HRL.out]; omega) ?_; intro g' n' c' wB hstB; have xf8 := (hstB.nth 1 rfl).celFree 8; have x8 := (hstB.nth 1 rfl).celAt (i := 8) (v := vR) rfl; have HSTB := Lib.hid (hstB.get2.setCel 8 (.slice (some ⟨g', 0, none⟩) n' c')); clear hstB))
              refine hK.out _ _ ?_ (fun hHeld => ?_)
              · (try dsimp only); (first | done | exact trivial)
              clear hK K
              try simp only [List.getElem_toArray, List.getElem_cons_zero, List.getElem_cons_succ, Act.put, List.setIfInBounds_toArray, List.set_cons_zero, List.set_cons_succ]
              refine wpAnyH_take (i := 11) (v := ?_) rfl (by kernel_rfl) (by kernel_rfl) (by kernel_rfl) (fun _ _ _ h => h) (Or.inl ⟨by rfl, ?_⟩) (by assumption) ?_
              rotate_left; focus (intro w hSw; (try dsimp only at hSw); go_simp; try (with_reducible rfl); done)
              try simp only [List.getElem_toArray, List.getElem_cons_zero, List.getElem_cons_succ, Act.put, List.setIfInBounds_toArray, List.set_cons_zero, List.set_cons_succ]
              refine wpAnyH_take (i := 12) (v := ?_) rfl (by kernel_rfl) (by kernel_rfl) (by kernel_rfl) (fun _ _ _ h => h) (Or.inl ⟨by rfl, ?_⟩) (by assumption) ?_
              rotate_left; focus (intro w hSw; (try dsimp only at hSw); go_simp; try (with_reducible rfl); done)
              try simp only [List.getElem_toArray, List.getElem_cons_zero, List.getElem_cons_succ, Act.put, List.setIfInBounds_toArray, List.set_cons_zero, List.set_cons_succ]
              refine wpAnyH_take (i := 13) (v := ?_) rfl (by kernel_rfl) (by kernel_rfl) (by kernel_rfl) (fun _ _ _ h => h) (Or.inl ⟨by rfl, ?_⟩) (by assumption) ?_
              rotate_left; focus (intro w hSw; (try dsimp only at hSw); go_simp; try (with_reducible rfl); done)
              try simp only [List.getElem_toArray, List.getElem_cons_zero, List.getElem_cons_succ, Act.put, List.setIfInBounds_toArray, List.set_cons_zero, List.set_cons_succ]
              refine wpAnyH_ready (rs := [14]) (by kernel_rfl) (by simp) ?_
              refine AllReadyH.cons rfl (fun K hK => ?_) AllReadyH.nil
              go_simp
              refine hK.out _ _ ?_ (fun hHeld => ?_)
              · (try dsimp only); (first | done | exact trivial)
              clear hK K
              try simp only [List.getElem_toArray, List.getElem_cons_zero, List.getElem_cons_succ, Act.put, List.setIfInBounds_toArray, List.set_cons_zero, List.set_cons_succ]
              refine wpAnyH_done (by kernel_rfl) ?_ _
              clear x8 xf8 HST5 HROW HST
              generalize wB.setCell ⟨gm, 8, none⟩ (.slice (some ⟨g', 0, none⟩) n' c') = wC at *
              have x6 := (HSTB.out.nth 0 rfl).celAt (i := 6) (v := .slice (some ⟨gS5, 0, none⟩) ((Dm.rowK P n ((Dm.sets P n).getD n []) (Dm.sets P n) b).1.map Dm.ofL).length cS5) rfl
              by_cases h2 : 200 < (Dm.rowK P n ((Dm.sets P n).getD n []) (Dm.sets P n) b).1.length
              · have H2 := Lib.hid (show 200 < (Dm.sets P (n + 1)).length by rw [HSS.out]; have := Dm.rowK_mono P n ((Dm.sets P n).getD n []) (Dm.sets P n) HEND.out.1; omega)
                have h2I : (200 : Int) < ((Dm.rowK P n ((Dm.sets P n).getD n []) (Dm.sets P n) b).1.length : Int) := by omega
                have r0 := (HSTB.out.nth 5 rfl).celAt (i := 0) (v := .slice none 0 0) rfl
                have r1 := (HSTB.out.nth 5 rfl).celAt (i := 1) (v := .slice none 0 0) rfl
                have f0 := (HSTB.out.nth 5 rfl).celFree 0
                have f1 := (HSTB.out.nth 5 rfl).celFree 1
                have HST6 := Lib.hid (((HSTB.out.pick [5, 0] 6 rfl rfl).setCel 0 (.slice none 0 0)).setCel 1 (.slice none 0 0))
                clear HSTB h2
                generalize (Dm.rowK P n ((Dm.sets P n).getD n []) (Dm.sets P n) b).1 = S9 at *
                go_wp2
                have q0 := (HST6.out.nth 0 rfl).celAt (i := 0) (v := .slice none 0 0) rfl
                have q1 := (HST6.out.nth 0 rfl).celAt (i := 1) (v := .slice none 0 0) rfl
                refine bodyPost_ret (v := .tuple #[.agg #[.slice none 0 0, .slice none 0 0], .int .i64 8]) (by simp [results, Try.results9, go_sem, q0, q1]) rfl ⟨none, Lib.hid ⟨n, hn2, .inr ⟨hlt, H2.out, rfl⟩⟩, rfl, HST6.out.bel⟩
              · have hee := HEND.out.2.2.1
                rcases hee with ⟨rfl, hl⟩ | hee
                · have HLL := Lib.hid (show l.length = 256 by rw [hl]; exact Dm.rowK_row_len ..)
                  have HRS := Lib.hid (show (Dm.rows P n).map Wd.rowV ++ [.agg (Dm.rowC l)] = (Dm.rows P (n + 1)).map Wd.rowV by
                    rw [Dm.rows_succ, List.map_append, List.map_singleton, Dm.rowC_full HLL.out, hl]; rfl)
                  have HT5 := Lib.hid HEND.out.2.2.2.2
                  clear hl
                  rw [← HSS.out] at HT5 h2 x6 HSTB
                  rw [HRS.out] at HSTB
                  have h2I : ((Dm.sets P (n + 1)).length : Int) ≤ 200 := by omega
                  have H2 := Lib.hid h2
                  clear h2
                  have HNL := Lib.hid (show n + 1 ≤ (Dm.sets P (n + 1)).length by have := Dm.sets_len_le P (show n ≤ n + 1 by omega); omega)
                  go_wp2
                  go_roundg (201 - (n + 1))
                  case measure => have := HGZ2.out; omega
                  case rel => exact ⟨n + 1, gS5, cS5, D5, .slice (some ⟨g', 0, none⟩) n' c', vT5, HNL.out, by have := H2.out; omega, rfl, by go_num, HT5, HSTB.out.pick [0, 2, 3, 4, 1, 5] 6 rfl rfl⟩
                · exact (h2 hee).elim
            · skip
              go_simp
              (first | (go_at_call 39; refine (HROW.out _ _ HST.out).mono ?_; rintro e w5 ⟨b, gS5, cS5, D5, vT5, l, HEND, rfl, hst5⟩; have x8 := (hst5.nth 0 rfl).celAt (i := 8) (v := vR) rfl; have HST5 := Lib.hid hst5; clear hst5) | (refine stepOne rowE rfl (.tmp 61) rfl (Dm.rowC l) rfl (Dm.rowC_size HEND.out.2.1) (by decide) ?_; have x8 := Dm.keep1 (o := .cells (Dm.rowC l) 96) x8) | (refine St.step1n (W := w5) (T := 96) (cs := Dm.rowC l) rowE rfl (.tmp 58) (.tmp 62) rfl rfl (HST5.out.pick (ρ := aOwn 96 256 vR ((Dm.rows P n).map Wd.rowV) :: _) [4, 0, 1, 2, 3, 5] 6 rfl rfl) (.agg (Dm.rowC l)) rfl w5.heap.size 1 rfl rfl (Dm.rowC_size HEND.out.2.1) (Dm.rowC_ones l) (by rw [HRL.out]; unfold maxLen; omega) (by rw [HRL.out]; omega) ?_; intro g' n' c' wB hstB; have xf8 := (hstB.nth 1 rfl).celFree 8; have x8 := (hstB.nth 1 rfl).celAt (i := 8) (v := vR) rfl; have HSTB := Lib.hid (hstB.get2.setCel 8 (.slice (some ⟨g', 0, none⟩) n' c')); clear hstB))
              refine hK.out _ _ ?_ (fun hHeld => ?_)
              · (try dsimp only); (first | done | exact trivial)
              clear hK K
              try simp only [List.getElem_toArray, List.getElem_cons_zero, List.getElem_cons_succ, Act.put, List.setIfInBounds_toArray, List.set_cons_zero, List.set_cons_succ]
              refine wpAnyH_ready (rs := [5, 9]) (by kernel_rfl) (by simp) ?_
              refine AllReadyH.cons rfl (fun K hK => ?_) (AllReadyH.cons rfl (fun K hK => ?_) (AllReadyH.nil))
              · skip
                go_simp
                refine hK.out _ _ ?_ (fun hHeld => ?_)
                · (try dsimp only); (first | done | exact trivial)
                clear hK K
                try simp only [List.getElem_toArray, List.getElem_cons_zero, List.getElem_cons_succ, Act.put, List.setIfInBounds_toArray, List.set_cons_zero, List.set_cons_succ]
                refine wpAnyH_ready (rs := [9]) (by kernel_rfl) (by simp) ?_
                refine AllReadyH.cons rfl (fun K hK => ?_) (AllReadyH.nil)
                (first | (go_at_call 39; refine (HROW.out _ _ HST.out).mono ?_; rintro e w5 ⟨b, gS5, cS5, D5, vT5, l, HEND, rfl, hst5⟩; have x8 := (hst5.nth 0 rfl).celAt (i := 8) (v := vR) rfl; have HST5 := Lib.hid hst5; clear hst5) | (refine stepOne rowE rfl (.tmp 61) rfl (Dm.rowC l) rfl (Dm.rowC_size HEND.out.2.1) (by decide) ?_; have x8 := Dm.keep1 (o := .cells (Dm.rowC l) 96) x8) | (refine St.step1n (W := w5) (T := 96) (cs := Dm.rowC l) rowE rfl (.tmp 58) (.tmp 62) rfl rfl (HST5.out.pick (ρ := aOwn 96 256 vR ((Dm.rows P n).map Wd.rowV) :: _) [4, 0, 1, 2, 3, 5] 6 rfl rfl) (.agg (Dm.rowC l)) rfl w5.heap.size 1 rfl rfl (Dm.rowC_size HEND.out.2.1) (Dm.rowC_ones l) (by rw [HRL.out]; unfold maxLen; omega) (by rw [HRL.out]; omega) ?_; intro g' n' c' wB hstB; have xf8 := (hstB.nth 1 rfl).celFree 8; have x8 := (hstB.nth 1 rfl).celAt (i := 8) (v := vR) rfl; have HSTB := Lib.hid (hstB.get2.setCel 8 (.slice (some ⟨g', 0, none⟩) n' c')); clear hstB))
                refine hK.out _ _ ?_ (fun hHeld => ?_)
                · (try dsimp only); (first | done | exact trivial)
                clear hK K
                try simp only [List.getElem_toArray, List.getElem_cons_zero, List.getElem_cons_succ, Act.put, List.setIfInBounds_toArray, List.set_cons_zero, List.set_cons_succ]
                refine wpAnyH_ready (rs := [10]) (by kernel_rfl) (by simp) ?_
                refine AllReadyH.cons rfl (fun K hK => ?_) AllReadyH.nil
                (first | (go_at_call 39; refine (HROW.out _ _ HST.out).mono ?_; rintro e w5 ⟨b, gS5, cS5, D5, vT5, l, HEND, rfl, hst5⟩; have x8 := (hst5.nth 0 rfl).celAt (i := 8) (v := vR) rfl; have HST5 := Lib.hid hst5; clear hst5) | (refine stepOne rowE rfl (.tmp 61) rfl (Dm.rowC l) rfl (Dm.rowC_size HEND.out.2.1) (by decide) ?_; have x8 := Dm.keep1 (o := .cells (Dm.rowC l) 96) x8) | (refine St.step1n (W := w5) (T := 96) (cs := Dm.rowC l) rowE rfl (.tmp 58) (.tmp 62) rfl rfl (HST5.out.pick (ρ := aOwn 96 256 vR ((Dm.rows P n).map Wd.rowV) :: _) [4, 0, 1, 2, 3, 5] 6 rfl rfl) (.agg (Dm.rowC l)) rfl w5.heap.size 1 rfl rfl (Dm.rowC_size HEND.out.2.1) (Dm.rowC_ones l) (by rw [HRL.out]; unfold maxLen; omega) (by rw [HRL.out]; omega) ?_; intro g' n' c' wB hstB; have xf8 := (hstB.nth 1 rfl).celFree 8; have x8 := (hstB.nth 1 rfl).celAt (i := 8) (v := vR) rfl; have HSTB := Lib.hid (hstB.get2.setCel 8 (.slice (some ⟨g', 0, none⟩) n' c')); clear hstB))
                refine hK.out _ _ ?_ (fun hHeld => ?_)
                · (try dsimp only); (first | done | exact trivial)
                clear hK K
                try simp only [List.getElem_toArray, List.getElem_cons_zero, List.getElem_cons_succ, Act.put, List.setIfInBounds_toArray, List.set_cons_zero, List.set_cons_succ]
                refine wpAnyH_take (i := 11) (v := ?_) rfl (by kernel_rfl) (by kernel_rfl) (by kernel_rfl) (fun _ _ _ h => h) (Or.inl ⟨by rfl, ?_⟩) (by assumption) ?_
                rotate_left; focus (intro w hSw; (try dsimp only at hSw); go_simp; try (with_reducible rfl); done)
                try simp only [List.getElem_toArray, List.getElem_cons_zero, List.getElem_cons_succ, Act.put, List.setIfInBounds_toArray, List.set_cons_zero, List.set_cons_succ]
                refine wpAnyH_take (i := 12) (v := ?_) rfl (by kernel_rfl) (by kernel_rfl) (by kernel_rfl) (fun _ _ _ h => h) (Or.inl ⟨by rfl, ?_⟩) (by assumption) ?_
                rotate_left; focus (intro w hSw; (try dsimp only at hSw); go_simp; try (with_reducible rfl); done)
                try simp only [List.getElem_toArray, List.getElem_cons_zero, List.getElem_cons_succ, Act.put, List.setIfInBounds_toArray, List.set_cons_zero, List.set_cons_succ]
                refine wpAnyH_take (i := 13) (v := ?_) rfl (by kernel_rfl) (by kernel_rfl) (by kernel_rfl) (fun _ _ _ h => h) (Or.inl ⟨by rfl, ?_⟩) (by assumption) ?_
                rotate_left; focus (intro w hSw; (try dsimp only at hSw); go_simp; try (with_reducible rfl); done)
                try simp only [List.getElem_toArray, List.getElem_cons_zero, List.getElem_cons_succ, Act.put, List.setIfInBounds_toArray, List.set_cons_zero, List.set_cons_succ]
                refine wpAnyH_ready (rs := [14]) (by kernel_rfl) (by simp) ?_
                refine AllReadyH.cons rfl (fun K hK => ?_) AllReadyH.nil
                go_simp
                refine hK.out _ _ ?_ (fun hHeld => ?_)
                · (try dsimp only); (first | done | exact trivial)
                clear hK K
                try simp only [List.getElem_toArray, List.getElem_cons_zero, List.getElem_cons_succ, Act.put, List.setIfInBounds_toArray, List.set_cons_zero, List.set_cons_succ]
                refine wpAnyH_done (by kernel_rfl) ?_ _
                clear x8 xf8 HST5 HROW HST
                generalize wB.setCell ⟨gm, 8, none⟩ (.slice (some ⟨g', 0, none⟩) n' c') = wC at *
                have x6 := (HSTB.out.nth 0 rfl).celAt (i := 6) (v := .slice (some ⟨gS5, 0, none⟩) ((Dm.rowK P n ((Dm.sets P n).getD n []) (Dm.sets P n) b).1.map Dm.ofL).length cS5) rfl
                by_cases h2 : 200 < (Dm.rowK P n ((Dm.sets P n).getD n []) (Dm.sets P n) b).1.length
                · have H2 := Lib.hid (show 200 < (Dm.sets P (n + 1)).length by rw [HSS.out]; have := Dm.rowK_mono P n ((Dm.sets P n).getD n []) (Dm.sets P n) HEND.out.1; omega)
                  have h2I : (200 : Int) < ((Dm.rowK P n ((Dm.sets P n).getD n []) (Dm.sets P n) b).1.length : Int) := by omega
                  have r0 := (HSTB.out.nth 5 rfl).celAt (i := 0) (v := .slice none 0 0) rfl
                  have r1 := (HSTB.out.nth 5 rfl).celAt (i := 1) (v := .slice none 0 0) rfl
                  have f0 := (HSTB.out.nth 5 rfl).celFree 0
                  have f1 := (HSTB.out.nth 5 rfl).celFree 1
                  have HST6 := Lib.hid (((HSTB.out.pick [5, 0] 6 rfl rfl).setCel 0 (.slice none 0 0)).setCel 1 (.slice none 0 0))
                  clear HSTB h2
                  generalize (Dm.rowK P n ((Dm.sets P n).getD n []) (Dm.sets P n) b).1 = S9 at *
                  go_wp2
                  have q0 := (HST6.out.nth 0 rfl).celAt (i := 0) (v := .slice none 0 0) rfl
                  have q1 := (HST6.out.nth 0 rfl).celAt (i := 1) (v := .slice none 0 0) rfl
                  refine bodyPost_ret (v := .tuple #[.agg #[.slice none 0 0, .slice none 0 0], .int .i64 8]) (by simp [results, Try.results9, go_sem, q0, q1]) rfl ⟨none, Lib.hid ⟨n, hn2, .inr ⟨hlt, H2.out, rfl⟩⟩, rfl, HST6.out.bel⟩
                · have hee := HEND.out.2.2.1
                  rcases hee with ⟨rfl, hl⟩ | hee
                  · have HLL := Lib.hid (show l.length = 256 by rw [hl]; exact Dm.rowK_row_len ..)
                    have HRS := Lib.hid (show (Dm.rows P n).map Wd.rowV ++ [.agg (Dm.rowC l)] = (Dm.rows P (n + 1)).map Wd.rowV by
                      rw [Dm.rows_succ, List.map_append, List.map_singleton, Dm.rowC_full HLL.out, hl]; rfl)
                    have HT5 := Lib.hid HEND.out.2.2.2.2
                    clear hl
                    rw [← HSS.out] at HT5 h2 x6 HSTB
                    rw [HRS.out] at HSTB
                    have h2I : ((Dm.sets P (n + 1)).length : Int) ≤ 200 := by omega
                    have H2 := Lib.hid h2
                    clear h2
                    have HNL := Lib.hid (show n + 1 ≤ (Dm.sets P (n + 1)).length by have := Dm.sets_len_le P (show n ≤ n + 1 by omega); omega)
                    go_wp2
                    go_roundg (201 - (n + 1))
                    case measure => have := HGZ2.out; omega
                    case rel => exact ⟨n + 1, gS5, cS5, D5, .slice (some ⟨g', 0, none⟩) n' c', vT5, HNL.out, by have := H2.out; omega, rfl, by go_num, HT5, HSTB.out.pick [0, 2, 3, 4, 1, 5] 6 rfl rfl⟩
                  · exact (h2 hee).elim
              · skip
                (first | (go_at_call 39; refine (HROW.out _ _ HST.out).mono ?_; rintro e w5 ⟨b, gS5, cS5, D5, vT5, l, HEND, rfl, hst5⟩; have x8 := (hst5.nth 0 rfl).celAt (i := 8) (v := vR) rfl; have HST5 := Lib.hid hst5; clear hst5) | (refine stepOne rowE rfl (.tmp 61) rfl (Dm.rowC l) rfl (Dm.rowC_size HEND.out.2.1) (by decide) ?_; have x8 := Dm.keep1 (o := .cells (Dm.rowC l) 96) x8) | (refine St.step1n (W := w5) (T := 96) (cs := Dm.rowC l) rowE rfl (.tmp 58) (.tmp 62) rfl rfl (HST5.out.pick (ρ := aOwn 96 256 vR ((Dm.rows P n).map Wd.rowV) :: _) [4, 0, 1, 2, 3, 5] 6 rfl rfl) (.agg (Dm.rowC l)) rfl w5.heap.size 1 rfl rfl (Dm.rowC_size HEND.out.2.1) (Dm.rowC_ones l) (by rw [HRL.out]; unfold maxLen; omega) (by rw [HRL.out]; omega) ?_; intro g' n' c' wB hstB; have xf8 := (hstB.nth 1 rfl).celFree 8; have x8 := (hstB.nth 1 rfl).celAt (i := 8) (v := vR) rfl; have HSTB := Lib.hid (hstB.get2.setCel 8 (.slice (some ⟨g', 0, none⟩) n' c')); clear hstB))
                refine hK.out _ _ ?_ (fun hHeld => ?_)
                · (try dsimp only); (first | done | exact trivial)
                clear hK K
                try simp only [List.getElem_toArray, List.getElem_cons_zero, List.getElem_cons_succ, Act.put, List.setIfInBounds_toArray, List.set_cons_zero, List.set_cons_succ]
                refine wpAnyH_ready (rs := [5]) (by kernel_rfl) (by simp) ?_
                refine AllReadyH.cons rfl (fun K hK => ?_) (AllReadyH.nil)
                go_simp
                refine hK.out _ _ ?_ (fun hHeld => ?_)
                · (try dsimp only); (first | done | exact trivial)
                clear hK K
                try simp only [List.getElem_toArray, List.getElem_cons_zero, List.getElem_cons_succ, Act.put, List.setIfInBounds_toArray, List.set_cons_zero, List.set_cons_succ]
                refine wpAnyH_ready (rs := [10]) (by kernel_rfl) (by simp) ?_
                refine AllReadyH.cons rfl (fun K hK => ?_) AllReadyH.nil
                (first | (go_at_call 39; refine (HROW.out _ _ HST.out).mono ?_; rintro e w5 ⟨b, gS5, cS5, D5, vT5, l, HEND, rfl, hst5⟩; have x8 := (hst5.nth 0 rfl).celAt (i := 8) (v := vR) rfl; have HST5 := Lib.hid hst5; clear hst5) | (refine stepOne rowE rfl (.tmp 61) rfl (Dm.rowC l) rfl (Dm.rowC_size HEND.out.2.1) (by decide) ?_; have x8 := Dm.keep1 (o := .cells (Dm.rowC l) 96) x8) | (refine St.step1n (W := w5) (T := 96) (cs := Dm.rowC l) rowE rfl (.tmp 58) (.tmp 62) rfl rfl (HST5.out.pick (ρ := aOwn 96 256 vR ((Dm.rows P n).map Wd.rowV) :: _) [4, 0, 1, 2, 3, 5] 6 rfl rfl) (.agg (Dm.rowC l)) rfl w5.heap.size 1 rfl rfl (Dm.rowC_size HEND.out.2.1) (Dm.rowC_ones l) (by rw [HRL.out]; unfold maxLen; omega) (by rw [HRL.out]; omega) ?_; intro g' n' c' wB hstB; have xf8 := (hstB.nth 1 rfl).celFree 8; have x8 := (hstB.nth 1 rfl).celAt (i := 8) (v := vR) rfl; have HSTB := Lib.hid (hstB.get2.setCel 8 (.slice (some ⟨g', 0, none⟩) n' c')); clear hstB))
                refine hK.out _ _ ?_ (fun hHeld => ?_)
                · (try dsimp only); (first | done | exact trivial)
                clear hK K
                try simp only [List.getElem_toArray, List.getElem_cons_zero, List.getElem_cons_succ, Act.put, List.setIfInBounds_toArray, List.set_cons_zero, List.set_cons_succ]
                refine wpAnyH_take (i := 11) (v := ?_) rfl (by kernel_rfl) (by kernel_rfl) (by kernel_rfl) (fun _ _ _ h => h) (Or.inl ⟨by rfl, ?_⟩) (by assumption) ?_
                rotate_left; focus (intro w hSw; (try dsimp only at hSw); go_simp; try (with_reducible rfl); done)
                try simp only [List.getElem_toArray, List.getElem_cons_zero, List.getElem_cons_succ, Act.put, List.setIfInBounds_toArray, List.set_cons_zero, List.set_cons_succ]
                refine wpAnyH_take (i := 12) (v := ?_) rfl (by kernel_rfl) (by kernel_rfl) (by kernel_rfl) (fun _ _ _ h => h) (Or.inl ⟨by rfl, ?_⟩) (by assumption) ?_
                rotate_left; focus (intro w hSw; (try dsimp only at hSw); go_simp; try (with_reducible rfl); done)
                try simp only [List.getElem_toArray, List.getElem_cons_zero, List.getElem_cons_succ, Act.put, List.setIfInBounds_toArray, List.set_cons_zero, List.set_cons_succ]
                refine wpAnyH_take (i := 13) (v := ?_) rfl (by kernel_rfl) (by kernel_rfl) (by kernel_rfl) (fun _ _ _ h => h) (Or.inl ⟨by rfl, ?_⟩) (by assumption) ?_
                rotate_left; focus (intro w hSw; (try dsimp only at hSw); go_simp; try (with_reducible rfl); done)
                try simp only [List.getElem_toArray, List.getElem_cons_zero, List.getElem_cons_succ, Act.put, List.setIfInBounds_toArray, List.set_cons_zero, List.set_cons_succ]
                refine wpAnyH_ready (rs := [14]) (by kernel_rfl) (by simp) ?_
                refine AllReadyH.cons rfl (fun K hK => ?_) AllReadyH.nil
                go_simp
                refine hK.out _ _ ?_ (fun hHeld => ?_)
                · (try dsimp only); (first | done | exact trivial)
                clear hK K
                try simp only [List.getElem_toArray, List.getElem_cons_zero, List.getElem_cons_succ, Act.put, List.setIfInBounds_toArray, List.set_cons_zero, List.set_cons_succ]
                refine wpAnyH_done (by kernel_rfl) ?_ _
                clear x8 xf8 HST5 HROW HST
                generalize wB.setCell ⟨gm, 8, none⟩ (.slice (some ⟨g', 0, none⟩) n' c') = wC at *
                have x6 := (HSTB.out.nth 0 rfl).celAt (i := 6) (v := .slice (some ⟨gS5, 0, none⟩) ((Dm.rowK P n ((Dm.sets P n).getD n []) (Dm.sets P n) b).1.map Dm.ofL).length cS5) rfl
                by_cases h2 : 200 < (Dm.rowK P n ((Dm.sets P n).getD n []) (Dm.sets P n) b).1.length
                · have H2 := Lib.hid (show 200 < (Dm.sets P (n + 1)).length by rw [HSS.out]; have := Dm.rowK_mono P n ((Dm.sets P n).getD n []) (Dm.sets P n) HEND.out.1; omega)
                  have h2I : (200 : Int) < ((Dm.rowK P n ((Dm.sets P n).getD n []) (Dm.sets P n) b).1.length : Int) := by omega
                  have r0 := (HSTB.out.nth 5 rfl).celAt (i := 0) (v := .slice none 0 0) rfl
                  have r1 := (HSTB.out.nth 5 rfl).celAt (i := 1) (v := .slice none 0 0) rfl
                  have f0 := (HSTB.out.nth 5 rfl).celFree 0
                  have f1 := (HSTB.out.nth 5 rfl).celFree 1
                  have HST6 := Lib.hid (((HSTB.out.pick [5, 0] 6 rfl rfl).setCel 0 (.slice none 0 0)).setCel 1 (.slice none 0 0))
                  clear HSTB h2
                  generalize (Dm.rowK P n ((Dm.sets P n).getD n []) (Dm.sets P n) b).1 = S9 at *
                  go_wp2
                  have q0 := (HST6.out.nth 0 rfl).celAt (i := 0) (v := .slice none 0 0) rfl
                  have q1 := (HST6.out.nth 0 rfl).celAt (i := 1) (v := .slice none 0 0) rfl
                  refine bodyPost_ret (v := .tuple #[.agg #[.slice none 0 0, .slice none 0 0], .int .i64 8]) (by simp [results, Try.results9, go_sem, q0, q1]) rfl ⟨none, Lib.hid ⟨n, hn2, .inr ⟨hlt, H2.out, rfl⟩⟩, rfl, HST6.out.bel⟩
                · have hee := HEND.out.2.2.1
                  rcases hee with ⟨rfl, hl⟩ | hee
                  · have HLL := Lib.hid (show l.length = 256 by rw [hl]; exact Dm.rowK_row_len ..)
                    have HRS := Lib.hid (show (Dm.rows P n).map Wd.rowV ++ [.agg (Dm.rowC l)] = (Dm.rows P (n + 1)).map Wd.rowV by
                      rw [Dm.rows_succ, List.map_append, List.map_singleton, Dm.rowC_full HLL.out, hl]; rfl)
                    have HT5 := Lib.hid HEND.out.2.2.2.2
                    clear hl
                    rw [← HSS.out] at HT5 h2 x6 HSTB
                    rw [HRS.out] at HSTB
                    have h2I : ((Dm.sets P (n + 1)).length : Int) ≤ 200 := by omega
                    have H2 := Lib.hid h2
                    clear h2
                    have HNL := Lib.hid (show n + 1 ≤ (Dm.sets P (n + 1)).length by have := Dm.sets_len_le P (show n ≤ n + 1 by omega); omega)
                    go_wp2
                    go_roundg (201 - (n + 1))
                    case measure => have := HGZ2.out; omega
                    case rel => exact ⟨n + 1, gS5, cS5, D5, .slice (some ⟨g', 0, none⟩) n' c', vT5, HNL.out, by have := H2.out; omega, rfl, by go_num, HT5, HSTB.out.pick [0, 2, 3, 4, 1, 5] 6 rfl rfl⟩
                  · exact (h2 hee).elim
          · have hne : n = (Dm.sets P n).length := by omega
            have HNE := Lib.hid hne
            clear hne
            have hge : ¬ ((n : Int) < (Dm.sets P n).length) := by omega
            have x8 := (hst.nth 0 rfl).celAt (i := 8) (v := vR) rfl
            have x9 := (hst.nth 0 rfl).celAt (i := 9) (v := vT) rfl
            have r0 := (hst.nth 5 rfl).celAt (i := 0) (v := .slice none 0 0) rfl
            have r1 := (hst.nth 5 rfl).celAt (i := 1) (v := .slice none 0 0) rfl
            have f0 := (hst.nth 5 rfl).celFree 0
            have f1 := (hst.nth 5 rfl).celFree 1
            obtain ⟨ar, nr, cr, rfl⟩ := (hst.nth 4 rfl).own.isSlice
            obtain ⟨at_, nt, ct, rfl⟩ := (hst.nth 3 rfl).own.isSlice
            have HST6 := Lib.hid (((hst.pick [5, 4, 3, 0, 1, 2] 6 rfl rfl).setCel 0 (.slice ar nr cr)).setCel 1 (.slice at_ nt ct))
            clear hst
            go_wp2
            have q0 := (HST6.out.nth 0 rfl).celAt (i := 0) (v := .slice ar nr cr) rfl
            have q1 := (HST6.out.nth 0 rfl).celAt (i := 1) (v := .slice at_ nt ct) rfl
            have hnl := HNE.out
            refine bodyPost_ret (v := .tuple #[.agg #[.slice ar nr cr, .slice at_ nt ct], .int .i64 0]) (by simp [results, Try.results9, go_sem, q0, q1]) rfl ⟨some (Dm.rows P n, Dm.tags P (Dm.sets P n)), Lib.hid ⟨n, hn2, .inl ⟨hnl, rfl⟩⟩, ⟨_, _, rfl, Wd.sl (HST6.out.nth 1 rfl).own (Dm.rows_wf P hn1 hn2), Own.sl (HST6.out.nth 2 rfl).own (Dm.tags_wf P HG.out.he2 _)⟩, HST6.out.bel⟩
  · skip
    go_simp
    refine hK.out _ _ ?_ (fun hHeld => ?_)
    · (try dsimp only); (refine ⟨?_, ?_, ?_, ?_, ?_, ?_⟩ <;> first | assumption | (apply Dm.keep1; assumption) | (apply Dm.keep1; apply Dm.keep1; assumption) | (apply Dm.keep1; apply Dm.keep1; apply Dm.keep1; assumption))
    clear hK K
    try simp only [List.getElem_toArray, List.getElem_cons_zero, List.getElem_cons_succ, Act.put, List.setIfInBounds_toArray, List.set_cons_zero, List.set_cons_succ]
    refine wpAnyH_ready (rs := [1]) (by kernel_rfl) (by simp) ?_
    refine AllReadyH.cons rfl (fun K hK => ?_) (AllReadyH.nil)
    go_simp
    refine hK.out _ _ ?_ (fun hHeld => ?_)
    · (try dsimp only); (refine ⟨?_, ?_, ?_, ?_, ?_, ?_⟩ <;> first | assumption | (apply Dm.keep1; assumption) | (apply Dm.keep1; apply Dm.keep1; assumption) | (apply Dm.keep1; apply Dm.keep1; apply Dm.keep1; assumption))
    clear hK K
    try simp only [List.getElem_toArray, List.getElem_cons_zero, List.getElem_cons_succ, Act.put, List.setIfInBounds_toArray, List.set_cons_zero, List.set_cons_succ]
    refine wpAnyH_take (i := 3) (v := ?_) rfl (by kernel_rfl) (by kernel_rfl) (by kernel_rfl) (fun _ _ _ h => h) (Or.inl ⟨by rfl, ?_⟩) (by assumption) ?_
    rotate_left; focus (intro w hSw; (try dsimp only at hSw); go_simp; try (with_reducible rfl); done)
    try simp only [List.getElem_toArray, List.getElem_cons_zero, List.getElem_cons_succ, Act.put, List.setIfInBounds_toArray, List.set_cons_zero, List.set_cons_succ]
    refine wpAnyH_ready (rs := [4]) (by kernel_rfl) (by simp) ?_
    refine AllReadyH.cons rfl (fun K hK => ?_) AllReadyH.nil
    go_simp
    refine hK.out _ _ ?_ (fun hHeld => ?_)
    · (try dsimp only); (refine ⟨?_, ?_, ?_, ?_, ?_, ?_⟩ <;> first | assumption | (apply Dm.keep1; assumption) | (apply Dm.keep1; apply Dm.keep1; assumption) | (apply Dm.keep1; apply Dm.keep1; apply Dm.keep1; assumption))
    clear hK K
    try simp only [List.getElem_toArray, List.getElem_cons_zero, List.getElem_cons_succ, Act.put, List.setIfInBounds_toArray, List.set_cons_zero, List.set_cons_succ]
    refine wpAnyH_take (i := 5) (v := ?_) rfl (by kernel_rfl) (by kernel_rfl) (by kernel_rfl) (fun _ _ _ h => h) (Or.inl ⟨by rfl, ?_⟩) (by assumption) ?_
    rotate_left; focus (intro w hSw; (try dsimp only at hSw); go_simp; try (with_reducible rfl); done)
    try simp only [List.getElem_toArray, List.getElem_cons_zero, List.getElem_cons_succ, Act.put, List.setIfInBounds_toArray, List.set_cons_zero, List.set_cons_succ]
    refine wpAnyH_done (by kernel_rfl) ?_ _
    have hst2 := ((((HST1.out.makeMap 177 3).alloc #[.int .u64 0, .int .u64 0, .int .u64 0, .int .u64 0] 177).turn (A' := aOwn 177 4 (.slice (some ⟨(w1.drew.alloc (.map #[] 0)).heap.size, 0, none⟩) 1 1) [Dm.setV Dm.zero]) rfl (Own.one (u := Dm.setV Dm.zero) (heap_alloc_new _ _) rfl)).alloc #[vc, vr, vi, vo, vl, ve, .slice (some ⟨(w1.drew.alloc (.map #[] 0)).heap.size, 0, none⟩) 1 1, .map (some (w1.heap.size)), .slice none 0 0, .slice none 0 0] 93).pick [0, 1, 2] 3 rfl rfl
    simp only [World.size_alloc, World.size_drew] at hst2
    have hst3 : St w ((((w1.alloc (.map #[] 0)).alloc (.cells #[.int .u64 0, .int .u64 0, .int .u64 0, .int .u64 0] 177)).alloc (.cells #[vc, vr, vi, vo, vl, ve, .slice (some ⟨w1.heap.size + 1, 0, none⟩) 1 1, .map (some (w1.heap.size)), .slice none 0 0, .slice none 0 0] 93)).drew) [aCel (w1.heap.size + 1 + 1) 93 #[vc, vr, vi, vo, vl, ve, .slice (some ⟨w1.heap.size + 1, 0, none⟩) 1 1, .map (some (w1.heap.size)), .slice none 0 0, .slice none 0 0], aOwn 177 4 (.slice (some ⟨w1.heap.size + 1, 0, none⟩) 1 1) [Dm.setV Dm.zero], aMap 177 3 (w1.heap.size) 0 (.map []), aCel (w.heap.size + 1) 30 #[.slice none 0 0, .slice none 0 0], aCel w.heap.size 27 #[vc, vr, vi, vo, vl, ve]] := hst2
    clear hst2
    generalize (((w1.alloc (.map #[] 0)).alloc (.cells #[.int .u64 0, .int .u64 0, .int .u64 0, .int .u64 0] 177)).alloc (.cells #[vc, vr, vi, vo, vl, ve, .slice (some ⟨w1.heap.size + 1, 0, none⟩) 1 1, .map (some (w1.heap.size)), .slice none 0 0, .slice none 0 0] 93)).drew = W2 at *
    generalize w1.heap.size + 1 + 1 = gm at *
    generalize w1.heap.size + 1 = gS at *
    generalize w1.heap.size = gM at *
    clear hHeld p0 p1 p2 p3 p4 p5 HST1
    have HST3 := Lib.hid hst3
    clear hst3
    have hst4 := (HST3.out.alloc #[.int .i64 (-1)] 3).turn (A' := aOwn 3 1 (.slice (some ⟨W2.heap.size, 0, none⟩) 1 1) [.int .i64 (-1)]) rfl (Own.one (u := .int .i64 (-1)) (heap_alloc_new _ _) rfl)
    have x9 := (hst4.nth 1 rfl).celAt (i := 9) (v := .slice none 0 0) rfl
    have xf9 := (hst4.nth 1 rfl).celFree 9
    have HST4 := Lib.hid (hst4.get2.setCel 9 (.slice (some ⟨W2.heap.size, 0, none⟩) 1 1))
    have h6 := HIN.out.h6
    obtain ⟨ae, be, oe, ce, rfl, -, e3, e4⟩ := slBool h6
    have E3 := Lib.hid e3
    have E4 := Lib.hid e4
    clear h6 e3 e4
    have x5 := (HST4.out.nth 5 rfl).celAt (i := 5) (v := .slice ae P.em.length ce) rfl
    have hel : (P.em.length : Int) ≤ 20 := by have := HG.out.he2; omega
    clear hst4 HST3
    go_wp2_with (fail)
    go_loopg [6] P.em.length (fun gz v wr => ∃ (j : Nat), j ≤ P.em.length ∧ gz = P.em.length - j ∧ v = .int .i64 ((P.em.length : Int) - 1 - j) ∧ St w wr [aCel gm 93 #[vc, vr, vi, vo, vl, .slice ae P.em.length ce, .slice (some ⟨gS, 0, none⟩) 1 1, .map (some gM), .slice none 0 0, .slice (some ⟨W2.heap.size, 0, none⟩) 1 1], aOwn 3 1 (.slice (some ⟨W2.heap.size, 0, none⟩) 1 1) ([Dm.tag0 P.em j].map (Value.int .i64)), aOwn 177 4 (.slice (some ⟨gS, 0, none⟩) 1 1) [Dm.setV Dm.zero], aMap 177 3 gM 0 (.map []), aCel (w.heap.size + 1) 30 #[.slice none 0 0, .slice none 0 0], aCel w.heap.size 27 #[vc, vr, vi, vo, vl, .slice ae P.em.length ce]])
    case atStart => exact ⟨0, by omega, by omega, by go_num, HST4.out⟩
    case round =>
      clear HST4 x9 xf9 x5
      obtain ⟨j, hj, hgz, rfl, hst⟩ := hrel
      have HGZ := Lib.hid hgz
      clear hgz
      by_cases hlt : j < P.em.length
      · obtain ⟨i, hi⟩ : ∃ i : Nat, P.em.length - 1 - j = i := ⟨_, rfl⟩
        have hiI : (P.em.length : Int) - 1 - j = i := by omega
        have hil : i < P.em.length := by omega
        rw [hiI]
        have HII := Lib.hid hiI
        have HT := Lib.hid (show Dm.tag0 P.em (j + 1) = if P.em.getD i false = true then (i : Int) else Dm.tag0 P.em j by rw [Dm.tag0, hi])
        obtain ⟨rfl, -, -⟩ := E3.out (by omega)
        have c0 := bkeep hst.bel (E4.out i hil)
        clear hi hiI
        have x9 := (hst.nth 0 rfl).celAt (i := 9) (v := .slice (some ⟨W2.heap.size, 0, none⟩) 1 1) rfl
        have x5 := (hst.nth 5 rfl).celAt (i := 5) (v := .slice (some ⟨be, oe, none⟩) P.em.length ce) rfl
        have t0 := (hst.get2.cellOwn (f := Value.int .i64) (fun _ => rfl) 0 (by simp) 0).1
        have tf0 := (hst.get2.cellOwn (f := Value.int .i64) (fun _ => rfl) 0 (by simp) 0).2
        have hiI2 : (i : Int) < P.em.length := by omega
        cases hB : P.em.getD i false
        · rw [hB] at c0 HT
          have hu := HT.out
          simp only [Bool.false_eq_true, if_false] at hu
          have HU := Lib.hid hu
          have HST := Lib.hid hst
          clear hu hst hB t0 tf0
          go_wp2
          go_roundg (P.em.length - (j + 1))
          case measure => have := HGZ.out; omega
          case rel => exact ⟨j + 1, by omega, rfl, congrArg (Value.int .i64) (by have := HII.out; omega), by rw [HU.out]; exact HST.out⟩
        · rw [hB] at c0 HT
          have hu := HT.out
          simp only [if_true] at hu
          have HU := Lib.hid hu
          have HST := Lib.hid (hst.get2.setOwn (f := Value.int .i64) (fun _ => rfl) 0 (i : Int)).get2
          clear hu hst hB
          go_wp2
          go_roundg (P.em.length - (j + 1))
          case measure => have := HGZ.out; omega
          case rel => exact ⟨j + 1, by omega, rfl, congrArg (Value.int .i64) (by have := HII.out; omega), by rw [HU.out]; exact HST.out⟩
      · have hje : j = P.em.length := by omega
        rw [hje, Dm.tag0_least] at hst
        have HJE := Lib.hid (show (P.em.length : Int) - 1 - j < 0 by omega)
        have hneg : (P.em.length : Int) - 1 - j < 0 := by omega
        have HST5 := Lib.hid ((hst.nilOwn 96 256).pick (ρ := Dm.base gm gS 1 gM ((Dm.sets P 0).length - 1) vc vr vi vo vl (.slice ae P.em.length ce) (.slice none 0 0) (.slice (some ⟨W2.heap.size, 0, none⟩) 1 1) ((Dm.sets P 0).map Dm.ofL) (.map []) (Dm.tags P (Dm.sets P 0)) (aOwn 96 256 (.slice none 0 0) ((Dm.rows P 0).map Wd.rowV) :: aCel (w.heap.size + 1) 30 #[.slice none 0 0, .slice none 0 0] :: [])) [1, 3, 4, 2, 0, 5] 7 rfl rfl)
        clear hst hje
        go_wp2_with (fail)
        go_loopg [7] 201 (fun gz v wr => ∃ (n gS cS : Nat) (D : DataW Unit) (vR vT : Value), n ≤ (Dm.sets P n).length ∧ (Dm.sets P n).length ≤ 200 ∧ gz = 201 - n ∧ v = .int .i64 n ∧ Hid (Tells 177 Dm.setV D (Dm.tabOf (Dm.sets P n))) ∧
          St w wr (Dm.base gm gS cS gM ((Dm.sets P n).length - 1) vc vr vi vo vl (.slice ae P.em.length ce) vR vT ((Dm.sets P n).map Dm.ofL) D (Dm.tags P (Dm.sets P n)) (aOwn 96 256 vR ((Dm.rows P n).map Wd.rowV) :: aCel (w.heap.size + 1) 30 #[.slice none 0 0, .slice none 0 0] :: [])))
        case atStart => exact ⟨0, gS, 1, .map [], .slice none 0 0, _, by simp, by simp [Dm.sets], by omega, rfl, Lib.hid Tells.nil, HST5.out⟩
        case round =>
          clear HST5 hneg hlt hj
          obtain ⟨n, gS, cS, D, vR, vT, hn1, hn2, hgz, rfl, HD, hst⟩ := hrel
          have HGZ2 := Lib.hid hgz
          clear hgz
          have hlm : (((Dm.sets P n).map Dm.ofL).length : Int) ≤ 200 := by rw [List.length_map]; omega
          have x6 := (hst.nth 0 rfl).celAt (i := 6) (v := .slice (some ⟨gS, 0, none⟩) ((Dm.sets P n).map Dm.ofL).length cS) rfl
          by_cases hlt : n < (Dm.sets P n).length
          · have hlI : (n : Int) < (Dm.sets P n).length := by omega
            have x8 := (hst.drew.nth 0 rfl).celAt (i := 8) (v := vR) rfl
            have HROW := Lib.hid (fun W μ h => dmRow_any P HG.out n (Dm.sets P n) hlt ((Dm.sets P n).getD n []) rfl hn2 (Dm.sel_sets P n) gm gS cS gM D HD.out vc vr vi vo vl (.slice ae P.em.length ce) vR vT w W F HF.out HIN.out μ h)
            have HRL := Lib.hid (show ((Dm.rows P n).map Wd.rowV).length = n by simp [Dm.rows])
            have HSS := Lib.hid (Dm.sets_succ (P := P) (k := n) hlt)
            have HST := Lib.hid hst.drew
            clear hst
            go_wp2_with (fail)
            refine wp_region_held_drew (S := (fun w' => True)) (by kernel_rfl) ?_ (fun hHeld => ?_)
            · (try dsimp only); (first | done | exact trivial)

            refine wpAnyH_take (i := 0) (v := ?_) rfl (by kernel_rfl) (by kernel_rfl) (by kernel_rfl) (fun _ _ _ h => h) (Or.inl ⟨by rfl, ?_⟩) (by assumption) ?_
            rotate_left; focus (intro w hSw; (try dsimp only at hSw); go_simp; try (with_reducible rfl); done)
            try simp only [List.getElem_toArray, List.getElem_cons_zero, List.getElem_cons_succ, Act.put, List.setIfInBounds_toArray, List.set_cons_zero, List.set_cons_succ]
            refine wpAnyH_take (i := 1) (v := ?_) rfl (by kernel_rfl) (by kernel_rfl) (by kernel_rfl) (fun _ _ _ h => h) (Or.inl ⟨by rfl, ?_⟩) (by assumption) ?_
            rotate_left; focus (intro w hSw; (try dsimp only at hSw); go_simp; try (with_reducible rfl); done)
            try simp only [List.getElem_toArray, List.getElem_cons_zero, List.getElem_cons_succ, Act.put, List.setIfInBounds_toArray, List.set_cons_zero, List.set_cons_succ]
            refine wpAnyH_take (i := 2) (v := ?_) rfl (by kernel_rfl) (by kernel_rfl) (by kernel_rfl) (fun _ _ _ h => h) (Or.inl ⟨by rfl, ?_⟩) (by assumption) ?_
            rotate_left; focus (intro w hSw; (try dsimp only at hSw); go_simp; try (with_reducible rfl); done)
            try simp only [List.getElem_toArray, List.getElem_cons_zero, List.getElem_cons_succ, Act.put, List.setIfInBounds_toArray, List.set_cons_zero, List.set_cons_succ]
            refine wpAnyH_take (i := 3) (v := ?_) rfl (by kernel_rfl) (by kernel_rfl) (by kernel_rfl) (fun _ _ _ h => h) (Or.inl ⟨by rfl, ?_⟩) (by assumption) ?_
            rotate_left; focus (intro w hSw; (try dsimp only at hSw); go_simp; try (with_reducible rfl); done)
            try simp only [List.getElem_toArray, List.getElem_cons_zero, List.getElem_cons_succ, Act.put, List.setIfInBounds_toArray, List.set_cons_zero, List.set_cons_succ]
            refine wpAnyH_take (i := 4) (v := ?_) rfl (by kernel_rfl) (by kernel_rfl) (by kernel_rfl) (fun _ _ _ h => h) (Or.inl ⟨by rfl, ?_⟩) (by assumption) ?_
            rotate_left; focus (intro w hSw; (try dsimp only at hSw); go_simp; try (with_reducible rfl); done)
            try simp only [List.getElem_toArray, List.getElem_cons_zero, List.getElem_cons_succ, Act.put, List.setIfInBounds_toArray, List.set_cons_zero, List.set_cons_succ]
            refine wpAnyH_take (i := 6) (v := ?_) rfl (by kernel_rfl) (by kernel_rfl) (by kernel_rfl) (fun _ _ _ h => h) (Or.inl ⟨by rfl, ?_⟩) (by assumption) ?_
            rotate_left; focus (intro w hSw; (try dsimp only at hSw); go_simp; try (with_reducible rfl); done)
            try simp only [List.getElem_toArray, List.getElem_cons_zero, List.getElem_cons_succ, Act.put, List.setIfInBounds_toArray, List.set_cons_zero, List.set_cons_succ]
            refine wpAnyH_take (i := 7) (v := ?_) rfl (by kernel_rfl) (by kernel_rfl) (by kernel_rfl) (fun _ _ _ h => h) (Or.inl ⟨by rfl, ?_⟩) (by assumption) ?_
            rotate_left; focus (intro w hSw; (try dsimp only at hSw); go_simp; try (with_reducible rfl); done)
            try simp only [List.getElem_toArray, List.getElem_cons_zero, List.getElem_cons_succ, Act.put, List.setIfInBounds_toArray, List.set_cons_zero, List.set_cons_succ]
            refine wpAnyH_ready (rs := [5, 8]) (by kernel_rfl) (by simp) ?_
            refine AllReadyH.cons rfl (fun K hK => ?_) (AllReadyH.cons rfl (fun K hK => ?_) (AllReadyH.nil))
            · skip
              go_simp
              refine hK.out _ _ ?_ (fun hHeld => ?_)
              · (try dsimp only); (first | done | exact trivial)
              clear hK K
              try simp only [List.getElem_toArray, List.getElem_cons_zero, List.getElem_cons_succ, Act.put, List.setIfInBounds_toArray, List.set_cons_zero, List.set_cons_succ]
              refine wpAnyH_ready (rs := [8]) (by kernel_rfl) (by simp) ?_
              refine AllReadyH.cons rfl (fun K hK => ?_) (AllReadyH.nil)
              go_simp
              (first | (go_at_call 39; refine (HROW.out _ _ HST.out).mono ?_; rintro e w5 ⟨b, gS5, cS5, D5, vT5, l, HEND, rfl, hst5⟩; have x8 := (hst5.nth 0 rfl).celAt (i := 8) (v := vR) rfl; have HST5 := Lib.hid hst5; clear hst5) | (refine stepOne rowE rfl (.tmp 61) rfl (Dm.rowC l) rfl (Dm.rowC_size HEND.out.2.1) (by decide) ?_; have x8 := Dm.keep1 (o := .cells (Dm.rowC l) 96) x8) | (refine St.step1n (W := w5) (T := 96) (cs := Dm.rowC l) rowE rfl (.tmp 58) (.tmp 62) rfl rfl (HST5.out.pick (ρ := aOwn 96 256 vR ((Dm.rows P n).map Wd.rowV) :: _) [4, 0, 1, 2, 3, 5] 6 rfl rfl) (.agg (Dm.rowC l)) rfl w5.heap.size 1 rfl rfl (Dm.rowC_size HEND.out.2.1) (Dm.rowC_ones l) (by rw [HRL.out]; unfold maxLen; omega) (by rw [HRL.out]; omega) ?_; intro g' n' c' wB hstB; have xf8 := (hstB.nth 1 rfl).celFree 8; have x8 := (hstB.nth 1 rfl).celAt (i := 8) (v := vR) rfl; have HSTB := Lib.hid (hstB.get2.setCel 8 (.slice (some ⟨g', 0, none⟩) n' c')); clear hstB))
              refine hK.out _ _ ?_ (fun hHeld => ?_)
              · (try dsimp only); (first | done | exact trivial)
              clear hK K
              try simp only [List.getElem_toArray, List.getElem_cons_zero, List.getElem_cons_succ, Act.put, List.setIfInBounds_toArray, List.set_cons_zero, List.set_cons_succ]
              refine wpAnyH_ready (rs := [9]) (by kernel_rfl) (by simp) ?_
              refine AllReadyH.cons rfl (fun K hK => ?_) (AllReadyH.nil)
              (first | (go_at_call 39; refine (HROW.out _ _ HST.out).mono ?_; rintro e w5 ⟨b, gS5, cS5, D5, vT5, l, HEND, rfl, hst5⟩; have x8 := (hst5.nth 0 rfl).celAt (i := 8) (v := vR) rfl; have HST5 := Lib.hid hst5; clear hst5) | (refine stepOne rowE rfl (.tmp 61) rfl (Dm.rowC l) rfl (Dm.rowC_size HEND.out.2.1) (by decide) ?_; have x8 := Dm.keep1 (o := .cells (Dm.rowC l) 96) x8) | (refine St.step1n (W := w5) (T := 96) (cs := Dm.rowC l) rowE rfl (.tmp 58) (.tmp 62) rfl rfl (HST5.out.pick (ρ := aOwn 96 256 vR ((Dm.rows P n).map Wd.rowV) :: _) [4, 0, 1, 2, 3, 5] 6 rfl rfl) (.agg (Dm.rowC l)) rfl w5.heap.size 1 rfl rfl (Dm.rowC_size HEND.out.2.1) (Dm.rowC_ones l) (by rw [HRL.out]; unfold maxLen; omega) (by rw [HRL.out]; omega) ?_; intro g' n' c' wB hstB; have xf8 := (hstB.nth 1 rfl).celFree 8; have x8 := (hstB.nth 1 rfl).celAt (i := 8) (v := vR) rfl; have HSTB := Lib.hid (hstB.get2.setCel 8 (.slice (some ⟨g', 0, none⟩) n' c')); clear hstB))
              refine hK.out _ _ ?_ (fun hHeld => ?_)
              · (try dsimp only); (first | done | exact trivial)
              clear hK K
              try simp only [List.getElem_toArray, List.getElem_cons_zero, List.getElem_cons_succ, Act.put, List.setIfInBounds_toArray, List.set_cons_zero, List.set_cons_succ]
              refine wpAnyH_ready (rs := [10]) (by kernel_rfl) (by simp) ?_
              refine AllReadyH.cons rfl (fun K hK => ?_) AllReadyH.nil
              (first | (go_at_call 39; refine (HROW.out _ _ HST.out).mono ?_; rintro e w5 ⟨b, gS5, cS5, D5, vT5, l, HEND, rfl, hst5⟩; have x8 := (hst5.nth 0 rfl).celAt (i := 8) (v := vR) rfl; have HST5 := Lib.hid hst5; clear hst5) | (refine stepOne rowE rfl (.tmp 61) rfl (Dm.rowC l) rfl (Dm.rowC_size HEND.out.2.1) (by decide) ?_; have x8 := Dm.keep1 (o := .cells (Dm.rowC l) 96) x8) | (refine St.step1n (W := w5) (T := 96) (cs := Dm.rowC l) rowE rfl (.tmp 58) (.tmp 62) rfl rfl (HST5.out.pick (ρ := aOwn 96 256 vR ((Dm.rows P n).map Wd.rowV) :: _) [4, 0, 1, 2, 3, 5] 6 rfl rfl) (.agg (Dm.rowC l)) rfl w5.heap.size 1 rfl rfl (Dm.rowC_size HEND.out.2.1) (Dm.rowC_ones l) (by rw [HRL.out]; unfold maxLen; omega) (by rw [HRL.out]; omega) ?_; intro g' n' c' wB hstB; have xf8 := (hstB.nth 1 rfl).celFree 8; have x8 := (hstB.nth 1 rfl).celAt (i := 8) (v := vR) rfl; have HSTB := Lib.hid (hstB.get2.setCel 8 (.slice (some ⟨g', 0, none⟩) n' c')); clear hstB))
              refine hK.out _ _ ?_ (fun hHeld => ?_)
              · (try dsimp only); (first | done | exact trivial)
              clear hK K
              try simp only [List.getElem_toArray, List.getElem_cons_zero, List.getElem_cons_succ, Act.put, List.setIfInBounds_toArray, List.set_cons_zero, List.set_cons_succ]
              refine wpAnyH_take (i := 11) (v := ?_) rfl (by kernel_rfl) (by kernel_rfl) (by kernel_rfl) (fun _ _ _ h => h) (Or.inl ⟨by rfl, ?_⟩) (by assumption) ?_
              rotate_left; focus (intro w hSw; (try dsimp only at hSw); go_simp; try (with_reducible rfl); done)
              try simp only [List.getElem_toArray, List.getElem_cons_zero, List.getElem_cons_succ, Act.put, List.setIfInBounds_toArray, List.set_cons_zero, List.set_cons_succ]
              refine wpAnyH_take (i := 12) (v := ?_) rfl (by kernel_rfl) (by kernel_rfl) (by kernel_rfl) (fun _ _ _ h => h) (Or.inl ⟨by rfl, ?_⟩) (by assumption) ?_
              rotate_left; focus (intro w hSw; (try dsimp only at hSw); go_simp; try (with_reducible rfl); done)
              try simp only [List.getElem_toArray, List.getElem_cons_zero, List.getElem_cons_succ, Act.put, List.setIfInBounds_toArray, List.set_cons_zero, List.set_cons_succ]
              refine wpAnyH_take (i := 13) (v := ?_) rfl (by kernel_rfl) (by kernel_rfl) (by kernel_rfl) (fun _ _ _ h => h) (Or.inl ⟨by rfl, ?_⟩) (by assumption) ?_
              rotate_left; focus (intro w hSw; (try dsimp only at hSw); go_simp; try (with_reducible rfl); done)
              try simp only [List.getElem_toArray, List.getElem_cons_zero, List.getElem_cons_succ, Act.put, List.setIfInBounds_toArray, List.set_cons_zero, List.set_cons_succ]
              refine wpAnyH_ready (rs := [14]) (by kernel_rfl) (by simp) ?_
              refine AllReadyH.cons rfl (fun K hK => ?_) AllReadyH.nil
              go_simp
              refine hK.out _ _ ?_ (fun hHeld => ?_)
              · (try dsimp only); (first | done | exact trivial)
              clear hK K
              try simp only [List.getElem_toArray, List.getElem_cons_zero, List.getElem_cons_succ, Act.put, List.setIfInBounds_toArray, List.set_cons_zero, List.set_cons_succ]
              refine wpAnyH_done (by kernel_rfl) ?_ _
              clear x8 xf8 HST5 HROW HST
              generalize wB.setCell ⟨gm, 8, none⟩ (.slice (some ⟨g', 0, none⟩) n' c') = wC at *
              have x6 := (HSTB.out.nth 0 rfl).celAt (i := 6) (v := .slice (some ⟨gS5, 0, none⟩) ((Dm.rowK P n ((Dm.sets P n).getD n []) (Dm.sets P n) b).1.map Dm.ofL).length cS5) rfl
              by_cases h2 : 200 < (Dm.rowK P n ((Dm.sets P n).getD n []) (Dm.sets P n) b).1.length
              · have H2 := Lib.hid (show 200 < (Dm.sets P (n + 1)).length by rw [HSS.out]; have := Dm.rowK_mono P n ((Dm.sets P n).getD n []) (Dm.sets P n) HEND.out.1; omega)
                have h2I : (200 : Int) < ((Dm.rowK P n ((Dm.sets P n).getD n []) (Dm.sets P n) b).1.length : Int) := by omega
                have r0 := (HSTB.out.nth 5 rfl).celAt (i := 0) (v := .slice none 0 0) rfl
                have r1 := (HSTB.out.nth 5 rfl).celAt (i := 1) (v := .slice none 0 0) rfl
                have f0 := (HSTB.out.nth 5 rfl).celFree 0
                have f1 := (HSTB.out.nth 5 rfl).celFree 1
                have HST6 := Lib.hid (((HSTB.out.pick [5, 0] 6 rfl rfl).setCel 0 (.slice none 0 0)).setCel 1 (.slice none 0 0))
                clear HSTB h2
                generalize (Dm.rowK P n ((Dm.sets P n).getD n []) (Dm.sets P n) b).1 = S9 at *
                go_wp2
                have q0 := (HST6.out.nth 0 rfl).celAt (i := 0) (v := .slice none 0 0) rfl
                have q1 := (HST6.out.nth 0 rfl).celAt (i := 1) (v := .slice none 0 0) rfl
                refine bodyPost_ret (v := .tuple #[.agg #[.slice none 0 0, .slice none 0 0], .int .i64 8]) (by simp [results, Try.results9, go_sem, q0, q1]) rfl ⟨none, Lib.hid ⟨n, hn2, .inr ⟨hlt, H2.out, rfl⟩⟩, rfl, HST6.out.bel⟩
              · have hee := HEND.out.2.2.1
                rcases hee with ⟨rfl, hl⟩ | hee
                · have HLL := Lib.hid (show l.length = 256 by rw [hl]; exact Dm.rowK_row_len ..)
                  have HRS := Lib.hid (show (Dm.rows P n).map Wd.rowV ++ [.agg (Dm.rowC l)] = (Dm.rows P (n + 1)).map Wd.rowV by
                    rw [Dm.rows_succ, List.map_append, List.map_singleton, Dm.rowC_full HLL.out, hl]; rfl)
                  have HT5 := Lib.hid HEND.out.2.2.2.2
                  clear hl
                  rw [← HSS.out] at HT5 h2 x6 HSTB
                  rw [HRS.out] at HSTB
                  have h2I : ((Dm.sets P (n + 1)).length : Int) ≤ 200 := by omega
                  have H2 := Lib.hid h2
                  clear h2
                  have HNL := Lib.hid (show n + 1 ≤ (Dm.sets P (n + 1)).length by have := Dm.sets_len_le P (show n ≤ n + 1 by omega); omega)
                  go_wp2
                  go_roundg (201 - (n + 1))
                  case measure => have := HGZ2.out; omega
                  case rel => exact ⟨n + 1, gS5, cS5, D5, .slice (some ⟨g', 0, none⟩) n' c', vT5, HNL.out, by have := H2.out; omega, rfl, by go_num, HT5, HSTB.out.pick [0, 2, 3, 4, 1, 5] 6 rfl rfl⟩
                · exact (h2 hee).elim
            · skip
              go_simp
              (first | (go_at_call 39; refine (HROW.out _ _ HST.out).mono ?_; rintro e w5 ⟨b, gS5, cS5, D5, vT5, l, HEND, rfl, hst5⟩; have x8 := (hst5.nth 0 rfl).celAt (i := 8) (v := vR) rfl; have HST5 := Lib.hid hst5; clear hst5) | (refine stepOne rowE rfl (.tmp 61) rfl (Dm.rowC l) rfl (Dm.rowC_size HEND.out.2.1) (by decide) ?_; have x8 := Dm.keep1 (o := .cells (Dm.rowC l) 96) x8) | (refine St.step1n (W := w5) (T := 96) (cs := Dm.rowC l) rowE rfl (.tmp 58) (.tmp 62) rfl rfl (HST5.out.pick (ρ := aOwn 96 256 vR ((Dm.rows P n).map Wd.rowV) :: _) [4, 0, 1, 2, 3, 5] 6 rfl rfl) (.agg (Dm.rowC l)) rfl w5.heap.size 1 rfl rfl (Dm.rowC_size HEND.out.2.1) (Dm.rowC_ones l) (by rw [HRL.out]; unfold maxLen; omega) (by rw [HRL.out]; omega) ?_; intro g' n' c' wB hstB; have xf8 := (hstB.nth 1 rfl).celFree 8; have x8 := (hstB.nth 1 rfl).celAt (i := 8) (v := vR) rfl; have HSTB := Lib.hid (hstB.get2.setCel 8 (.slice (some ⟨g', 0, none⟩) n' c')); clear hstB))
              refine hK.out _ _ ?_ (fun hHeld => ?_)
              · (try dsimp only); (first | done | exact trivial)
              clear hK K
              try simp only [List.getElem_toArray, List.getElem_cons_zero, List.getElem_cons_succ, Act.put, List.setIfInBounds_toArray, List.set_cons_zero, List.set_cons_succ]
              refine wpAnyH_ready (rs := [5, 9]) (by kernel_rfl) (by simp) ?_
              refine AllReadyH.cons rfl (fun K hK => ?_) (AllReadyH.cons rfl (fun K hK => ?_) (AllReadyH.nil))
              · skip
                go_simp
                refine hK.out _ _ ?_ (fun hHeld => ?_)
                · (try dsimp only); (first | done | exact trivial)
                clear hK K
                try simp only [List.getElem_toArray, List.getElem_cons_zero, List.getElem_cons_succ, Act.put, List.setIfInBounds_toArray, List.set_cons_zero, List.set_cons_succ]
                refine wpAnyH_ready (rs := [9]) (by kernel_rfl) (by simp) ?_
                refine AllReadyH.cons rfl (fun K hK => ?_) (AllReadyH.nil)
                (first | (go_at_call 39; refine (HROW.out _ _ HST.out).mono ?_; rintro e w5 ⟨b, gS5, cS5, D5, vT5, l, HEND, rfl, hst5⟩; have x8 := (hst5.nth 0 rfl).celAt (i := 8) (v := vR) rfl; have HST5 := Lib.hid hst5; clear hst5) | (refine stepOne rowE rfl (.tmp 61) rfl (Dm.rowC l) rfl (Dm.rowC_size HEND.out.2.1) (by decide) ?_; have x8 := Dm.keep1 (o := .cells (Dm.rowC l) 96) x8) | (refine St.step1n (W := w5) (T := 96) (cs := Dm.rowC l) rowE rfl (.tmp 58) (.tmp 62) rfl rfl (HST5.out.pick (ρ := aOwn 96 256 vR ((Dm.rows P n).map Wd.rowV) :: _) [4, 0, 1, 2, 3, 5] 6 rfl rfl) (.agg (Dm.rowC l)) rfl w5.heap.size 1 rfl rfl (Dm.rowC_size HEND.out.2.1) (Dm.rowC_ones l) (by rw [HRL.out]; unfold maxLen; omega) (by rw [HRL.out]; omega) ?_; intro g' n' c' wB hstB; have xf8 := (hstB.nth 1 rfl).celFree 8; have x8 := (hstB.nth 1 rfl).celAt (i := 8) (v := vR) rfl; have HSTB := Lib.hid (hstB.get2.setCel 8 (.slice (some ⟨g', 0, none⟩) n' c')); clear hstB))
                refine hK.out _ _ ?_ (fun hHeld => ?_)
                · (try dsimp only); (first | done | exact trivial)
                clear hK K
                try simp only [List.getElem_toArray, List.getElem_cons_zero, List.getElem_cons_succ, Act.put, List.setIfInBounds_toArray, List.set_cons_zero, List.set_cons_succ]
                refine wpAnyH_ready (rs := [10]) (by kernel_rfl) (by simp) ?_
                refine AllReadyH.cons rfl (fun K hK => ?_) AllReadyH.nil
                (first | (go_at_call 39; refine (HROW.out _ _ HST.out).mono ?_; rintro e w5 ⟨b, gS5, cS5, D5, vT5, l, HEND, rfl, hst5⟩; have x8 := (hst5.nth 0 rfl).celAt (i := 8) (v := vR) rfl; have HST5 := Lib.hid hst5; clear hst5) | (refine stepOne rowE rfl (.tmp 61) rfl (Dm.rowC l) rfl (Dm.rowC_size HEND.out.2.1) (by decide) ?_; have x8 := Dm.keep1 (o := .cells (Dm.rowC l) 96) x8) | (refine St.step1n (W := w5) (T := 96) (cs := Dm.rowC l) rowE rfl (.tmp 58) (.tmp 62) rfl rfl (HST5.out.pick (ρ := aOwn 96 256 vR ((Dm.rows P n).map Wd.rowV) :: _) [4, 0, 1, 2, 3, 5] 6 rfl rfl) (.agg (Dm.rowC l)) rfl w5.heap.size 1 rfl rfl (Dm.rowC_size HEND.out.2.1) (Dm.rowC_ones l) (by rw [HRL.out]; unfold maxLen; omega) (by rw [HRL.out]; omega) ?_; intro g' n' c' wB hstB; have xf8 := (hstB.nth 1 rfl).celFree 8; have x8 := (hstB.nth 1 rfl).celAt (i := 8) (v := vR) rfl; have HSTB := Lib.hid (hstB.get2.setCel 8 (.slice (some ⟨g', 0, none⟩) n' c')); clear hstB))
                refine hK.out _ _ ?_ (fun hHeld => ?_)
                · (try dsimp only); (first | done | exact trivial)
                clear hK K
                try simp only [List.getElem_toArray, List.getElem_cons_zero, List.getElem_cons_succ, Act.put, List.setIfInBounds_toArray, List.set_cons_zero, List.set_cons_succ]
                refine wpAnyH_take (i := 11) (v := ?_) rfl (by kernel_rfl) (by kernel_rfl) (by kernel_rfl) (fun _ _ _ h => h) (Or.inl ⟨by rfl, ?_⟩) (by assumption) ?_
                rotate_left; focus (intro w hSw; (try dsimp only at hSw); go_simp; try (with_reducible rfl); done)
                try simp only [List.getElem_toArray, List.getElem_cons_zero, List.getElem_cons_succ, Act.put, List.setIfInBounds_toArray, List.set_cons_zero, List.set_cons_succ]
                refine wpAnyH_take (i := 12) (v := ?_) rfl (by kernel_rfl) (by kernel_rfl) (by kernel_rfl) (fun _ _ _ h => h) (Or.inl ⟨by rfl, ?_⟩) (by assumption) ?_
                rotate_left; focus (intro w hSw; (try dsimp only at hSw); go_simp; try (with_reducible rfl); done)
                try simp only [List.getElem_toArray, List.getElem_cons_zero, List.getElem_cons_succ, Act.put, List.setIfInBounds_toArray, List.set_cons_zero, List.set_cons_succ]
                refine wpAnyH_take (i := 13) (v := ?_) rfl (by kernel_rfl) (by kernel_rfl) (by kernel_rfl) (fun _ _ _ h => h) (Or.inl ⟨by rfl, ?_⟩) (by assumption) ?_
                rotate_left; focus (intro w hSw; (try dsimp only at hSw); go_simp; try (with_reducible rfl); done)
                try simp only [List.getElem_toArray, List.getElem_cons_zero, List.getElem_cons_succ, Act.put, List.setIfInBounds_toArray, List.set_cons_zero, List.set_cons_succ]
                refine wpAnyH_ready (rs := [14]) (by kernel_rfl) (by simp) ?_
                refine AllReadyH.cons rfl (fun K hK => ?_) AllReadyH.nil
                go_simp
                refine hK.out _ _ ?_ (fun hHeld => ?_)
                · (try dsimp only); (first | done | exact trivial)
                clear hK K
                try simp only [List.getElem_toArray, List.getElem_cons_zero, List.getElem_cons_succ, Act.put, List.setIfInBounds_toArray, List.set_cons_zero, List.set_cons_succ]
                refine wpAnyH_done (by kernel_rfl) ?_ _
                clear x8 xf8 HST5 HROW HST
                generalize wB.setCell ⟨gm, 8, none⟩ (.slice (some ⟨g', 0, none⟩) n' c') = wC at *
                have x6 := (HSTB.out.nth 0 rfl).celAt (i := 6) (v := .slice (some ⟨gS5, 0, none⟩) ((Dm.rowK P n ((Dm.sets P n).getD n []) (Dm.sets P n) b).1.map Dm.ofL).length cS5) rfl
                by_cases h2 : 200 < (Dm.rowK P n ((Dm.sets P n).getD n []) (Dm.sets P n) b).1.length
                · have H2 := Lib.hid (show 200 < (Dm.sets P (n + 1)).length by rw [HSS.out]; have := Dm.rowK_mono P n ((Dm.sets P n).getD n []) (Dm.sets P n) HEND.out.1; omega)
                  have h2I : (200 : Int) < ((Dm.rowK P n ((Dm.sets P n).getD n []) (Dm.sets P n) b).1.length : Int) := by omega
                  have r0 := (HSTB.out.nth 5 rfl).celAt (i := 0) (v := .slice none 0 0) rfl
                  have r1 := (HSTB.out.nth 5 rfl).celAt (i := 1) (v := .slice none 0 0) rfl
                  have f0 := (HSTB.out.nth 5 rfl).celFree 0
                  have f1 := (HSTB.out.nth 5 rfl).celFree 1
                  have HST6 := Lib.hid (((HSTB.out.pick [5, 0] 6 rfl rfl).setCel 0 (.slice none 0 0)).setCel 1 (.slice none 0 0))
                  clear HSTB h2
                  generalize (Dm.rowK P n ((Dm.sets P n).getD n []) (Dm.sets P n) b).1 = S9 at *
                  go_wp2
                  have q0 := (HST6.out.nth 0 rfl).celAt (i := 0) (v := .slice none 0 0) rfl
                  have q1 := (HST6.out.nth 0 rfl).celAt (i := 1) (v := .slice none 0 0) rfl
                  refine bodyPost_ret (v := .tuple #[.agg #[.slice none 0 0, .slice none 0 0], .int .i64 8]) (by simp [results, Try.results9, go_sem, q0, q1]) rfl ⟨none, Lib.hid ⟨n, hn2, .inr ⟨hlt, H2.out, rfl⟩⟩, rfl, HST6.out.bel⟩
                · have hee := HEND.out.2.2.1
                  rcases hee with ⟨rfl, hl⟩ | hee
                  · have HLL := Lib.hid (show l.length = 256 by rw [hl]; exact Dm.rowK_row_len ..)
                    have HRS := Lib.hid (show (Dm.rows P n).map Wd.rowV ++ [.agg (Dm.rowC l)] = (Dm.rows P (n + 1)).map Wd.rowV by
                      rw [Dm.rows_succ, List.map_append, List.map_singleton, Dm.rowC_full HLL.out, hl]; rfl)
                    have HT5 := Lib.hid HEND.out.2.2.2.2
                    clear hl
                    rw [← HSS.out] at HT5 h2 x6 HSTB
                    rw [HRS.out] at HSTB
                    have h2I : ((Dm.sets P (n + 1)).length : Int) ≤ 200 := by omega
                    have H2 := Lib.hid h2
                    clear h2
                    have HNL := Lib.hid (show n + 1 ≤ (Dm.sets P (n + 1)).length by have := Dm.sets_len_le P (show n ≤ n + 1 by omega); omega)
                    go_wp2
                    go_roundg (201 - (n + 1))
                    case measure => have := HGZ2.out; omega
                    case rel => exact ⟨n + 1, gS5, cS5, D5, .slice (some ⟨g', 0, none⟩) n' c', vT5, HNL.out, by have := H2.out; omega, rfl, by go_num, HT5, HSTB.out.pick [0, 2, 3, 4, 1, 5] 6 rfl rfl⟩
                  · exact (h2 hee).elim
              · skip
                (first | (go_at_call 39; refine (HROW.out _ _ HST.out).mono ?_; rintro e w5 ⟨b, gS5, cS5, D5, vT5, l, HEND, rfl, hst5⟩; have x8 := (hst5.nth 0 rfl).celAt (i := 8) (v := vR) rfl; have HST5 := Lib.hid hst5; clear hst5) | (refine stepOne rowE rfl (.tmp 61) rfl (Dm.rowC l) rfl (Dm.rowC_size HEND.out.2.1) (by decide) ?_; have x8 := Dm.keep1 (o := .cells (Dm.rowC l) 96) x8) | (refine St.step1n (W := w5) (T := 96) (cs := Dm.rowC l) rowE rfl (.tmp 58) (.tmp 62) rfl rfl (HST5.out.pick (ρ := aOwn 96 256 vR ((Dm.rows P n).map Wd.rowV) :: _) [4, 0, 1, 2, 3, 5] 6 rfl rfl) (.agg (Dm.rowC l)) rfl w5.heap.size 1 rfl rfl (Dm.rowC_size HEND.out.2.1) (Dm.rowC_ones l) (by rw [HRL.out]; unfold maxLen; omega) (by rw [HRL.out]; omega) ?_; intro g' n' c' wB hstB; have xf8 := (hstB.nth 1 rfl).celFree 8; have x8 := (hstB.nth 1 rfl).celAt (i := 8) (v := vR) rfl; have HSTB := Lib.hid (hstB.get2.setCel 8 (.slice (some ⟨g', 0, none⟩) n' c')); clear hstB))
                refine hK.out _ _ ?_ (fun hHeld => ?_)
                · (try dsimp only); (first | done | exact trivial)
                clear hK K
                try simp only [List.getElem_toArray, List.getElem_cons_zero, List.getElem_cons_succ, Act.put, List.setIfInBounds_toArray, List.set_cons_zero, List.set_cons_succ]
                refine wpAnyH_ready (rs := [5]) (by kernel_rfl) (by simp) ?_
                refine AllReadyH.cons rfl (fun K hK => ?_) (AllReadyH.nil)
                go_simp
                refine hK.out _ _ ?_ (fun hHeld => ?_)
                · (try dsimp only); (first | done | exact trivial)
                clear hK K
                try simp only [List.getElem_toArray, List.getElem_cons_zero, List.getElem_cons_succ, Act.put, List.setIfInBounds_toArray, List.set_cons_zero, List.set_cons_succ]
                refine wpAnyH_ready (rs := [10]) (by kernel_rfl) (by simp) ?_
                refine AllReadyH.cons rfl (fun K hK => ?_) AllReadyH.nil
                (first | (go_at_call 39; refine (HROW.out _ _ HST.out).mono ?_; rintro e w5 ⟨b, gS5, cS5, D5, vT5, l, HEND, rfl, hst5⟩; have x8 := (hst5.nth 0 rfl).celAt (i := 8) (v := vR) rfl; have HST5 := Lib.hid hst5; clear hst5) | (refine stepOne rowE rfl (.tmp 61) rfl (Dm.rowC l) rfl (Dm.rowC_size HEND.out.2.1) (by decide) ?_; have x8 := Dm.keep1 (o := .cells (Dm.rowC l) 96) x8) | (refine St.step1n (W := w5) (T := 96) (cs := Dm.rowC l) rowE rfl (.tmp 58) (.tmp 62) rfl rfl (HST5.out.pick (ρ := aOwn 96 256 vR ((Dm.rows P n).map Wd.rowV) :: _) [4, 0, 1, 2, 3, 5] 6 rfl rfl) (.agg (Dm.rowC l)) rfl w5.heap.size 1 rfl rfl (Dm.rowC_size HEND.out.2.1) (Dm.rowC_ones l) (by rw [HRL.out]; unfold maxLen; omega) (by rw [HRL.out]; omega) ?_; intro g' n' c' wB hstB; have xf8 := (hstB.nth 1 rfl).celFree 8; have x8 := (hstB.nth 1 rfl).celAt (i := 8) (v := vR) rfl; have HSTB := Lib.hid (hstB.get2.setCel 8 (.slice (some ⟨g', 0, none⟩) n' c')); clear hstB))
                refine hK.out _ _ ?_ (fun hHeld => ?_)
                · (try dsimp only); (first | done | exact trivial)
                clear hK K
                try simp only [List.getElem_toArray, List.getElem_cons_zero, List.getElem_cons_succ, Act.put, List.setIfInBounds_toArray, List.set_cons_zero, List.set_cons_succ]
                refine wpAnyH_take (i := 11) (v := ?_) rfl (by kernel_rfl) (by kernel_rfl) (by kernel_rfl) (fun _ _ _ h => h) (Or.inl ⟨by rfl, ?_⟩) (by assumption) ?_
                rotate_left; focus (intro w hSw; (try dsimp only at hSw); go_simp; try (with_reducible rfl); done)
                try simp only [List.getElem_toArray, List.getElem_cons_zero, List.getElem_cons_succ, Act.put, List.setIfInBounds_toArray, List.set_cons_zero, List.set_cons_succ]
                refine wpAnyH_take (i := 12) (v := ?_) rfl (by kernel_rfl) (by kernel_rfl) (by kernel_rfl) (fun _ _ _ h => h) (Or.inl ⟨by rfl, ?_⟩) (by assumption) ?_
                rotate_left; focus (intro w hSw; (try dsimp only at hSw); go_simp; try (with_reducible rfl); done)
                try simp only [List.getElem_toArray, List.getElem_cons_zero, List.getElem_cons_succ, Act.put, List.setIfInBounds_toArray, List.set_cons_zero, List.set_cons_succ]
                refine wpAnyH_take (i := 13) (v := ?_) rfl (by kernel_rfl) (by kernel_rfl) (by kernel_rfl) (fun _ _ _ h => h) (Or.inl ⟨by rfl, ?_⟩) (by assumption) ?_
                rotate_left; focus (intro w hSw; (try dsimp only at hSw); go_simp; try (with_reducible rfl); done)
                try simp only [List.getElem_toArray, List.getElem_cons_zero, List.getElem_cons_succ, Act.put, List.setIfInBounds_toArray, List.set_cons_zero, List.set_cons_succ]
                refine wpAnyH_ready (rs := [14]) (by kernel_rfl) (by simp) ?_
                refine AllReadyH.cons rfl (fun K hK => ?_) AllReadyH.nil
                go_simp
                refine hK.out _ _ ?_ (fun hHeld => ?_)
                · (try dsimp only); (first | done | exact trivial)
                clear hK K
                try simp only [List.getElem_toArray, List.getElem_cons_zero, List.getElem_cons_succ, Act.put, List.setIfInBounds_toArray, List.set_cons_zero, List.set_cons_succ]
                refine wpAnyH_done (by kernel_rfl) ?_ _
                clear x8 xf8 HST5 HROW HST
                generalize wB.setCell ⟨gm, 8, none⟩ (.slice (some ⟨g', 0, none⟩) n' c') = wC at *
                have x6 := (HSTB.out.nth 0 rfl).celAt (i := 6) (v := .slice (some ⟨gS5, 0, none⟩) ((Dm.rowK P n ((Dm.sets P n).getD n []) (Dm.sets P n) b).1.map Dm.ofL).length cS5) rfl
                by_cases h2 : 200 < (Dm.rowK P n ((Dm.sets P n).getD n []) (Dm.sets P n) b).1.length
                · have H2 := Lib.hid (show 200 < (Dm.sets P (n + 1)).length by rw [HSS.out]; have := Dm.rowK_mono P n ((Dm.sets P n).getD n []) (Dm.sets P n) HEND.out.1; omega)
                  have h2I : (200 : Int) < ((Dm.rowK P n ((Dm.sets P n).getD n []) (Dm.sets P n) b).1.length : Int) := by omega
                  have r0 := (HSTB.out.nth 5 rfl).celAt (i := 0) (v := .slice none 0 0) rfl
                  have r1 := (HSTB.out.nth 5 rfl).celAt (i := 1) (v := .slice none 0 0) rfl
                  have f0 := (HSTB.out.nth 5 rfl).celFree 0
                  have f1 := (HSTB.out.nth 5 rfl).celFree 1
                  have HST6 := Lib.hid (((HSTB.out.pick [5, 0] 6 rfl rfl).setCel 0 (.slice none 0 0)).setCel 1 (.slice none 0 0))
                  clear HSTB h2
                  generalize (Dm.rowK P n ((Dm.sets P n).getD n []) (Dm.sets P n) b).1 = S9 at *
                  go_wp2
                  have q0 := (HST6.out.nth 0 rfl).celAt (i := 0) (v := .slice none 0 0) rfl
                  have q1 := (HST6.out.nth 0 rfl).celAt (i := 1) (v := .slice none 0 0) rfl
                  refine bodyPost_ret (v := .tuple #[.agg #[.slice none 0 0, .slice none 0 0], .int .i64 8]) (by simp [results, Try.results9, go_sem, q0, q1]) rfl ⟨none, Lib.hid ⟨n, hn2, .inr ⟨hlt, H2.out, rfl⟩⟩, rfl, HST6.out.bel⟩
                · have hee := HEND.out.2.2.1
                  rcases hee with ⟨rfl, hl⟩ | hee
                  · have HLL := Lib.hid (show l.length = 256 by rw [hl]; exact Dm.rowK_row_len ..)
                    have HRS := Lib.hid (show (Dm.rows P n).map Wd.rowV ++ [.agg (Dm.rowC l)] = (Dm.rows P (n + 1)).map Wd.rowV by
                      rw [Dm.rows_succ, List.map_append, List.map_singleton, Dm.rowC_full HLL.out, hl]; rfl)
                    have HT5 := Lib.hid HEND.out.2.2.2.2
                    clear hl
                    rw [← HSS.out] at HT5 h2 x6 HSTB
                    rw [HRS.out] at HSTB
                    have h2I : ((Dm.sets P (n + 1)).length : Int) ≤ 200 := by omega
                    have H2 := Lib.hid h2
                    clear h2
                    have HNL := Lib.hid (show n + 1 ≤ (Dm.sets P (n + 1)).length by have := Dm.sets_len_le P (show n ≤ n + 1 by omega); omega)
                    go_wp2
                    go_roundg (201 - (n + 1))
                    case measure => have := HGZ2.out; omega
                    case rel => exact ⟨n + 1, gS5, cS5, D5, .slice (some ⟨g', 0, none⟩) n' c', vT5, HNL.out, by have := H2.out; omega, rfl, by go_num, HT5, HSTB.out.pick [0, 2, 3, 4, 1, 5] 6 rfl rfl⟩
                  · exact (h2 hee).elim
          · have hne : n = (Dm.sets P n).length := by omega
            have HNE := Lib.hid hne
            clear hne
            have hge : ¬ ((n : Int) < (Dm.sets P n).length) := by omega
            have x8 := (hst.nth 0 rfl).celAt (i := 8) (v := vR) rfl
            have x9 := (hst.nth 0 rfl).celAt (i := 9) (v := vT) rfl
            have r0 := (hst.nth 5 rfl).celAt (i := 0) (v := .slice none 0 0) rfl
            have r1 := (hst.nth 5 rfl).celAt (i := 1) (v := .slice none 0 0) rfl
            have f0 := (hst.nth 5 rfl).celFree 0
            have f1 := (hst.nth 5 rfl).celFree 1
            obtain ⟨ar, nr, cr, rfl⟩ := (hst.nth 4 rfl).own.isSlice
            obtain ⟨at_, nt, ct, rfl⟩ := (hst.nth 3 rfl).own.isSlice
            have HST6 := Lib.hid (((hst.pick [5, 4, 3, 0, 1, 2] 6 rfl rfl).setCel 0 (.slice ar nr cr)).setCel 1 (.slice at_ nt ct))
            clear hst
            go_wp2
            have q0 := (HST6.out.nth 0 rfl).celAt (i := 0) (v := .slice ar nr cr) rfl
            have q1 := (HST6.out.nth 0 rfl).celAt (i := 1) (v := .slice at_ nt ct) rfl
            have hnl := HNE.out
            refine bodyPost_ret (v := .tuple #[.agg #[.slice ar nr cr, .slice at_ nt ct], .int .i64 0]) (by simp [results, Try.results9, go_sem, q0, q1]) rfl ⟨some (Dm.rows P n, Dm.tags P (Dm.sets P n)), Lib.hid ⟨n, hn2, .inl ⟨hnl, rfl⟩⟩, ⟨_, _, rfl, Wd.sl (HST6.out.nth 1 rfl).own (Dm.rows_wf P hn1 hn2), Own.sl (HST6.out.nth 2 rfl).own (Dm.tags_wf P HG.out.he2 _)⟩, HST6.out.bel⟩
end Go.Proofs.Ytlgabpcddldelaa
