/-
  The walk of the law SpecRights.
-/
import Derived.Test.YtanoagnfgncnkaaRMade
import Derived.Deep.RegionLaw
namespace Go.Proofs.Ytanoagnfgncnkaa
set_option linter.unusedVariables false
open Go.ChangeShapes Go.WideShapes Go.ChangeAt Go.RowKit

theorem rangeOfBox {w : World} {g : Nat} {cs : Array Value} {T : TypeId} {fr : Nat × Nat} (h : w.heap[g]? = some (.cells cs T fr)) : w.rangeAt g 0 cs.toList := by
  intro j v hv
  simp only [World.cell?, h, Nat.zero_add]
  simpa using hv

set_option maxRecDepth 100000 in
set_option maxHeartbeats 8000000 in
theorem specRights_walk (A : Array Value) (m : Mk.Md) (w : World) (h : Enc.made.R (fun b => b < w.heap.size) w A.toList m) :
    Calls Try.prog 3 #[.agg A] w fun e w' => e = .returned (.bool true) ∧ Below w.heap.size w w' := by
  obtain ⟨v0, Pc, vn, vt, vp, vr, va, vg, hm⟩ := made_cells h
  have hsz : (Try.prog.info? 34).map (fun x => x.size) = some A.toList.length := by rw [Array.length_toList, hm.size]; kernel_rfl
  have hB : Below w.heap.size w (w.alloc (.cells A 34)) := (Below.refl _ _).alloc (Nat.le_refl _) _
  have HC1 : Hid (∀ W', Below w.heap.size w W' → Calls Try.prog 12 #[.agg A] W' fun e w' => e = .returned (.int .i64 (Mk.err m)) ∧ Below W'.heap.size W' w') := Lib.hid (fun W' hW => by
    obtain ⟨v0, Pc, vn, vt, vp, vr, va, vg, hm⟩ := made_cells (Enc.mono _ h (fun _ h => h) (fun b hb => hW.block b hb))
    exact specRight_any A m v0 Pc vn vt vp vr va vg W' _ (fun b hb => Nat.lt_of_lt_of_le hb hW.size) hm)
  have HC2 : Hid (∀ W', Below w.heap.size w W' → Calls Try.prog 13 #[.agg A] W' fun e w' => e = .returned (.int .i64 (Mk.err m)) ∧ Below W'.heap.size W' w') := Lib.hid (fun W' hW => by
    obtain ⟨v0, Pc, vn, vt, vp, vr, va, vg, hm⟩ := made_cells (Enc.mono _ h (fun _ h => h) (fun b hb => hW.block b hb))
    exact rmade_any A m v0 Pc vn vt vp vr va vg W' _ (fun b hb => Nat.lt_of_lt_of_le hb hW.size) hm)
  have hH : (w.alloc (.cells A 34)).heap[w.heap.size]? = some (.cells A 34 (0, 0)) := heap_alloc_new _ _
  have HS := Lib.hid hsz
  generalize Mk.err m = E at HC1 HC2
  have hlt : w.heap.size < (w.alloc (.cells A 34)).heap.size := by simp
  clear h hm hsz
  go_enter Try.func3, Try.ntmps3
  go_wp2
  generalize w.alloc (.cells A 34) = W at hB hH hlt ⊢
  have HKEEP : Hid (∀ w1 w2 : World, (w1.heap[w.heap.size]? = some (.cells A 34 (0, 0)) ∧ Below w.heap.size w w1) → Below w1.heap.size w1 w2 → (w2.heap[w.heap.size]? = some (.cells A 34 (0, 0)) ∧ Below w.heap.size w w2)) :=
    Lib.hid (fun w1 w2 h hb => ⟨(hb.block _ (Array.getElem?_eq_some_iff.1 h.1).1).trans h.1, h.2.trans (hb.mono h.2.size)⟩)
  have HS0 : Hid (W.drew.heap[w.heap.size]? = some (.cells A 34 (0, 0)) ∧ Below w.heap.size w W.drew) := Lib.hid ⟨hH, hB.drew⟩
  refine wp_region_held_drew (S := fun w' => w'.heap[w.heap.size]? = some (.cells A 34 (0, 0)) ∧ Below w.heap.size w w') (by kernel_rfl) ⟨hH, hB.drew⟩ (fun hHeld => ?_)
  refine wpAnyH_take (i := 0) (v := .agg A.toList.toArray) rfl (by kernel_rfl) (by kernel_rfl) (by kernel_rfl) (fun _ _ _ h => h) (yieldsIf_load_mid (by rfl) 34 (.tmp 1) rfl w.heap.size 0 rfl A.toList _ (fun w' h => rangeOfBox h.1) Try.underlying34 rfl HS.out) (by assumption) ?_
  try simp only [Act.put]
  try simp only [List.setIfInBounds_toArray]
  try simp only [List.set_cons_succ]
  try simp only [List.set_cons_zero]
  refine wpAnyH_take (i := 2) (v := .agg A.toList.toArray) rfl (by kernel_rfl) (by kernel_rfl) (by kernel_rfl) (fun _ _ _ h => h) (yieldsIf_load_mid (by rfl) 34 (.tmp 1) rfl w.heap.size 0 rfl A.toList _ (fun w' h => rangeOfBox h.1) Try.underlying34 rfl HS.out) (by assumption) ?_
  try simp only [Act.put]
  try simp only [List.setIfInBounds_toArray]
  try simp only [List.set_cons_succ]
  try simp only [List.set_cons_zero]
  clear hHeld
  refine wpAnyH_ready (rs := [1]) (by kernel_rfl) (by simp) ?_
  refine AllReadyH.cons rfl (fun K hK => ?_) AllReadyH.nil
  go_simp
  go_at_call 12
  refine (HC1.out _ HS0.out.2).mono ?_
  rintro e w' ⟨rfl, hb⟩
  have HS1 := Lib.hid (HKEEP.out _ _ HS0.out hb)
  clear hb
  simp only
  refine hK.out _ _ HS1.out (fun hHeld => ?_)
  clear hK K
  try simp only [Act.put]
  try simp only [List.setIfInBounds_toArray]
  try simp only [List.set_cons_succ]
  try simp only [List.set_cons_zero]
  clear hHeld
  refine wpAnyH_ready (rs := [3]) (by kernel_rfl) (by simp) ?_
  refine AllReadyH.cons rfl (fun K hK => ?_) AllReadyH.nil
  go_simp
  go_at_call 13
  refine (HC2.out _ HS1.out.2).mono ?_
  rintro e w' ⟨rfl, hb⟩
  have HS2 := Lib.hid (HKEEP.out _ _ HS1.out hb)
  clear hb
  simp only
  refine hK.out _ _ HS2.out (fun hHeld => ?_)
  clear hK K
  try simp only [Act.put]
  try simp only [List.setIfInBounds_toArray]
  try simp only [List.set_cons_succ]
  try simp only [List.set_cons_zero]
  refine wpAnyH_take (i := 4) (v := .bool true) rfl (by kernel_rfl) (by kernel_rfl) (by kernel_rfl) (fun _ _ _ h => h) (Or.inl ⟨by rfl, fun w hSw => by go_simp⟩) (by assumption) ?_
  try simp only [Act.put]
  try simp only [List.setIfInBounds_toArray]
  try simp only [List.set_cons_succ]
  try simp only [List.set_cons_zero]
  refine wpAnyH_take (i := 5) (v := .bool true) rfl (by kernel_rfl) (by kernel_rfl) (by kernel_rfl) (fun _ _ _ h => h) (Or.inl ⟨by rfl, fun w hSw => by go_simp⟩) (by assumption) ?_
  try simp only [Act.put]
  try simp only [List.setIfInBounds_toArray]
  try simp only [List.set_cons_succ]
  try simp only [List.set_cons_zero]
  refine wpAnyH_done (by kernel_rfl) ?_ _
  go_wp2
  go_ret
  rename_i d1 h1 _ d2 h2
  obtain rfl : 2 = d1 := Option.some.inj h1
  obtain rfl : 7 = d2 := Option.some.inj h2
  exact ⟨rfl, HS2.out.2⟩
end Go.Proofs.Ytanoagnfgncnkaa
