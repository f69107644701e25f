/-
  state of package dfa: the number of a set of places.
-/
import Derived.Test.YtlgabpcddldelaaDmNext
import Derived.Test.YtlgabpcddldelaaMapStep
import Derived.Test.YtlgabpcddldelaaPkRange
import Derived.Test.YtlgabpcddldelaaArrEq
namespace Go.Proofs.Ytlgabpcddldelaa
set_option linter.unusedVariables false
set_option linter.unusedSimpArgs false
open Go.ChangeShapes Go.WideShapes Go.ChangeAt Go.RowKit

namespace Dm
theorem akey : WideMaps.ArrKey Try.prog 177 37 4 := ⟨Try.underlying177, by kernel_rfl, by kernel_rfl, by kernel_rfl⟩
theorem zeroE (w : World) : (zeroValue 3).run Try.prog w = .ok (.int .i64 0) w := by kernel_rfl
theorem tsz : ∃ m, Try.prog.types.size = m + 1 := ⟨Try.prog.types.size - 1, by kernel_rfl⟩
theorem setKey {t : List Nat} (h : Ok4 t) : ∃ kl, keyOf Try.prog 177 (setV t) = some kl := by
  have e : setV t = .agg ((t.map fun (n : Nat) => (n : Int)).map (Value.int .u64)).toArray := by unfold setV setA; rw [List.map_map]; rfl
  rw [e]
  refine arr_key akey Try.underlying37 tsz _ (by rw [List.length_map]; exact h.len) (fun x hx => ?_)
  obtain ⟨n, hn, rfl⟩ := List.mem_map.1 hx
  obtain ⟨j, hj, rfl⟩ := List.getElem_of_mem hn
  have := h.lt j
  rw [show t.getD j 0 = t[j] by simp [List.getD, List.getElem?_eq_getElem hj]] at this
  have h2 : ((t[j] : Nat) : Int) < 18446744073709551616 := Int.ofNat_lt.2 this
  simp [Lit.wf, IntKind.min, IntKind.max, IntKind.signed, IntKind.bits]
  omega
/-- A map of things to their places in a list, from 1 on. -/
def tab {κ : Type} (xs : List κ) : List (κ × Int) := ((xs.zipIdx 1).map fun p => (p.1, (p.2 : Int))).reverse
theorem tab_snoc {κ : Type} (xs : List κ) (x : κ) : tab (xs ++ [x]) = (x, ((xs.length + 1 : Nat) : Int)) :: tab xs := by
  unfold tab
  rw [List.zipIdx_append, List.map_append, List.reverse_append]
  simp [Nat.add_comm]
theorem has_tab {κ : Type} [DecidableEq κ] (xs : List κ) (c : κ) : hasAt (tab xs) c = xs.any fun x => decide (x = c) := by
  unfold hasAt tab
  rw [List.any_reverse, List.any_map]
  conv => rhs; rw [← List.zipIdx_map_fst 1 xs, List.any_map]
  rfl
theorem find_tab {κ : Type} [DecidableEq κ] (c : κ) : ∀ (xs : List κ) (s : Nat), xs.Nodup → ((xs.zipIdx s).map (fun p => (p.1, (p.2 : Int)))).reverse.find? (fun p => decide (p.1 = c)) = if xs.findIdx (fun x => decide (x = c)) = xs.length then none else some (c, ((s + xs.findIdx (fun x => decide (x = c)) : Nat) : Int)) := by
  intro xs
  induction xs with
  | nil => intro s _; simp
  | cons x xs ih =>
    intro s hn
    obtain ⟨h1, h2⟩ := List.nodup_cons.1 hn
    rw [List.zipIdx_cons, List.map_cons, List.reverse_cons, List.find?_append, ih (s + 1) h2, List.findIdx_cons]
    by_cases hx : x = c
    · have hno : xs.findIdx (fun y => decide (y = c)) = xs.length := by
        rw [List.findIdx_eq_length]
        intro y hy
        have : y ≠ c := fun e => h1 (by rw [hx, ← e]; exact hy)
        simpa using this
      simp [hno, hx]
    · by_cases hl : xs.findIdx (fun y => decide (y = c)) = xs.length
      · simp [hl, hx]
      · simp [hl, hx]
        omega
theorem num_tab {κ : Type} [DecidableEq κ] {xs : List κ} {c : κ} (hn : xs.Nodup) (hc : xs.findIdx (fun x => decide (x = c)) ≠ xs.length) : numAt (tab xs) c = ((1 + xs.findIdx (fun x => decide (x = c)) : Nat) : Int) := by
  unfold numAt tab
  rw [find_tab c xs 1 hn, if_neg hc]
def tagK (la : List Bool) (ru : List Int) (t : List Nat) : Nat → Int
  | 0 => -1
  | i + 1 => if (mem t i && la.getD i false && (decide (tagK la ru t i < 0) || decide (ru.getD i 0 < tagK la ru t i))) = true then ru.getD i 0 else tagK la ru t i
theorem setE : ET Try.prog 90 177 4 32 := ET.mk' Try.underlying90 (z := .agg #[.int .u64 0, .int .u64 0, .int .u64 0, .int .u64 0]) (by kernel_rfl) rfl (by decide)
theorem setV_one (t : List Nat) : ∀ q ∈ (setV t).cells.toList, q.oneCell' = true := by
  intro q hq
  simp only [setV, Value.cells, setA, List.mem_map] at hq
  obtain ⟨n, _, rfl⟩ := hq
  rfl
end Dm
abbrev Dm.base (gm gS cS gk nD : Nat) (vc vr vi vo vl ve vR vT : Value) (W : List (List Nat)) (D : DataW Unit) (tags : List Int) (μ : List Asrt) : List Asrt :=
  aCel gm 93 #[vc, vr, vi, vo, vl, ve, .slice (some ⟨gS, 0, none⟩) W.length cS, .map (some gk), vR, vT] :: aOwn 177 4 (.slice (some ⟨gS, 0, none⟩) W.length cS) (W.map Dm.setV) :: aMap 177 3 gk nD D :: aOwn 3 1 vT (tags.map (Value.int .i64)) :: μ

set_option maxRecDepth 100000 in
set_option maxHeartbeats 1600000 in
theorem dmState_found (t : List Nat) (ht : Dm.Ok4 t) (W : List (List Nat)) (D : DataW Unit) (L : List (List Nat × Int)) (hD : Tells 177 Dm.setV D L) (hh : hasAt L t = true) (gm gS cS gk nD : Nat) (vc vr vi vo vl ve vR vT : Value) (tags : List Int) (μ : List Asrt) (w0 w : World) (h : St w0 w (Dm.base gm gS cS gk nD vc vr vi vo vl ve vR vT W D tags μ)) :
    Calls Try.prog 97 #[.pointer (some ⟨gm, 0, none⟩), Dm.setV t] w fun e w' => e = .returned (.int .i64 (numAt L t)) ∧ Below w.heap.size w w' := by
  obtain ⟨kl, hkl⟩ := Dm.setKey ht
  obtain ⟨hhas, hat⟩ := hD.2 t kl hkl
  rw [hh] at hhas
  have hstB := (h.alloc (Dm.setA t) 177).drew
  have HB := Lib.hid ((St.init w).alloc (Dm.setA t) 177).drew
  have x7 : World.cell? _ ⟨gm, 7, none⟩ = some (.map (some gk)) := (hstB.nth 1 rfl).celAt (i := 7) rfl
  have k0 := hstB.heapAt 0 rfl
  have HOWN := Lib.hid (hstB.nth 3 rfl).mapOwn
  have HKL := Lib.hid hkl
  have HAT := Lib.hid hat
  have HSZ := Lib.hid (show (Try.prog.info? 177).map (·.size) = some (t.map Dm.wV).length by rw [List.length_map, ht.len]; exact Dm.setInfo)
  have HR := Lib.hid (Pk.range k0 (mid := t.map Dm.wV) (post := []) (List.append_nil _).symm)
  generalize numAt L t = num at *
  clear hD hh hkl hat h hstB k0
  unfold Dm.setV
  go_enter Try.func97, Try.ntmps97
  go_wp2_with (fail)
  refine wp_region_held_drew (S := (fun w' => w'.rangeAt w.heap.size 0 (t.map Dm.wV) ∧ w'.cell? ⟨gm, 7, none⟩ = some (.map (some gk)))) (by kernel_rfl) ?_ (fun hHeld => ?_)
  · (try dsimp only); (exact ⟨HR.out, x7⟩)

  refine wpAnyH_take (i := 0) (v := ?_) rfl (by kernel_rfl) (by kernel_rfl) (by kernel_rfl) (fun _ _ _ h => h) (Or.inl ⟨by rfl, ?_⟩) (by assumption) ?_
  rotate_left; focus (intro w hSw; (try dsimp only at hSw); go_simp; try (with_reducible rfl); done)
  try simp only [List.getElem_toArray, List.getElem_cons_zero, List.getElem_cons_succ, Act.put, List.setIfInBounds_toArray, List.set_cons_zero, List.set_cons_succ]
  refine wpAnyH_take (i := 1) (v := ?_) rfl (by kernel_rfl) (by kernel_rfl) (by kernel_rfl) (fun _ _ _ h => h) (Or.inl ⟨by rfl, ?_⟩) (by assumption) ?_
  rotate_left; focus (intro w hSw; (try dsimp only at hSw); go_simp; try (with_reducible rfl); done)
  try simp only [List.getElem_toArray, List.getElem_cons_zero, List.getElem_cons_succ, Act.put, List.setIfInBounds_toArray, List.set_cons_zero, List.set_cons_succ]
  refine wpAnyH_take (i := 2) (v := ?_) rfl (by kernel_rfl) (by kernel_rfl) (by kernel_rfl) (fun _ _ _ h => h) (Or.inl ⟨by rfl, ?_⟩) (by assumption) ?_
  rotate_left; focus (intro w hSw; (try dsimp only at hSw); go_simp; try (with_reducible rfl); done)
  try simp only [List.getElem_toArray, List.getElem_cons_zero, List.getElem_cons_succ, Act.put, List.setIfInBounds_toArray, List.set_cons_zero, List.set_cons_succ]
  refine wpAnyH_take (i := 3) (v := ?_) rfl (by kernel_rfl) (by kernel_rfl) (by kernel_rfl) (fun _ _ _ h => h) (Or.inl ⟨by rfl, ?_⟩) (by assumption) ?_
  rotate_left; focus (intro w hSw; (try dsimp only at hSw); go_simp; try (with_reducible rfl); done)
  try simp only [List.getElem_toArray, List.getElem_cons_zero, List.getElem_cons_succ, Act.put, List.setIfInBounds_toArray, List.set_cons_zero, List.set_cons_succ]
  refine wpAnyH_take (i := 4) (v := _) rfl (by kernel_rfl) (by kernel_rfl) (by kernel_rfl) (fun _ _ _ h => h) (yieldsIf_load_mid (by rfl) 177 (.tmp 3) rfl w.heap.size 0 rfl (t.map Dm.wV) _ (fun w' h => h.1) Try.underlying177 rfl HSZ.out) (by assumption) ?_
  try simp only [List.getElem_toArray, List.getElem_cons_zero, List.getElem_cons_succ, Act.put, List.setIfInBounds_toArray, List.set_cons_zero, List.set_cons_succ]
  refine wpAnyH_ready (rs := [5]) (by kernel_rfl) (by simp) ?_
  refine AllReadyH.cons rfl (fun K hK => ?_) AllReadyH.nil
  (refine St.stepLookOk rfl (.tmp 13) (.tmp 14) rfl Dm.akey.law Try.underlying91 Try.underlying3 Dm.zeroE HOWN.out rfl (Dm.setV t) rfl HKL.out num HAT.out ?_)
  refine hK.out _ _ ?_ (fun hHeld => ?_)
  · (try dsimp only); (exact ⟨HR.out, x7⟩)
  clear hK K
  try simp only [List.getElem_toArray, List.getElem_cons_zero, List.getElem_cons_succ, Act.put, List.setIfInBounds_toArray, List.set_cons_zero, List.set_cons_succ]
  refine wpAnyH_take (i := 6) (v := ?_) rfl (by kernel_rfl) (by kernel_rfl) (by kernel_rfl) (fun _ _ _ h => h) (Or.inl ⟨by rfl, ?_⟩) (by assumption) ?_
  rotate_left; focus (intro w hSw; (try dsimp only at hSw); go_simp; try (with_reducible rfl); done)
  try simp only [List.getElem_toArray, List.getElem_cons_zero, List.getElem_cons_succ, Act.put, List.setIfInBounds_toArray, List.set_cons_zero, List.set_cons_succ]
  refine wpAnyH_take (i := 7) (v := ?_) rfl (by kernel_rfl) (by kernel_rfl) (by kernel_rfl) (fun _ _ _ h => h) (Or.inl ⟨by rfl, ?_⟩) (by assumption) ?_
  rotate_left; focus (intro w hSw; (try dsimp only at hSw); go_simp; try (with_reducible rfl); done)
  try simp only [List.getElem_toArray, List.getElem_cons_zero, List.getElem_cons_succ, Act.put, List.setIfInBounds_toArray, List.set_cons_zero, List.set_cons_succ]
  refine wpAnyH_take (i := 8) (v := ?_) rfl (by kernel_rfl) (by kernel_rfl) (by kernel_rfl) (fun _ _ _ h => h) (Or.inl ⟨by rfl, ?_⟩) (by assumption) ?_
  rotate_left; focus (intro w hSw; (try dsimp only at hSw); go_simp; try (with_reducible rfl); done)
  try simp only [List.getElem_toArray, List.getElem_cons_zero, List.getElem_cons_succ, Act.put, List.setIfInBounds_toArray, List.set_cons_zero, List.set_cons_succ]
  refine wpAnyH_take (i := 9) (v := ?_) rfl (by kernel_rfl) (by kernel_rfl) (by kernel_rfl) (fun _ _ _ h => h) (Or.inl ⟨by rfl, ?_⟩) (by assumption) ?_
  rotate_left; focus (intro w hSw; (try dsimp only at hSw); go_simp; try (with_reducible rfl); done)
  try simp only [List.getElem_toArray, List.getElem_cons_zero, List.getElem_cons_succ, Act.put, List.setIfInBounds_toArray, List.set_cons_zero, List.set_cons_succ]
  refine wpAnyH_take (i := 10) (v := ?_) rfl (by kernel_rfl) (by kernel_rfl) (by kernel_rfl) (fun _ _ _ h => h) (Or.inl ⟨by rfl, ?_⟩) (by assumption) ?_
  rotate_left; focus (intro w hSw; (try dsimp only at hSw); go_simp; try (with_reducible rfl); done)
  try simp only [List.getElem_toArray, List.getElem_cons_zero, List.getElem_cons_succ, Act.put, List.setIfInBounds_toArray, List.set_cons_zero, List.set_cons_succ]
  refine wpAnyH_done (by kernel_rfl) ?_ _
  go_wp2
  go_ret
  exact ⟨rfl, HB.out.bel⟩

set_option maxRecDepth 100000 in
set_option maxHeartbeats 8000000 in
theorem dmState_new (a b c d : Nat) (ht : Dm.Ok4 [a, b, c, d]) (W : List (List Nat)) (D : DataW Unit) (L : List (List Nat × Int)) (hD : Tells 177 Dm.setV D L) (hh : hasAt L [a, b, c, d] = false) (hWl : W.length ≤ 1000) (gm gS cS gk nD : Nat) (hnD : nD ≤ 100000) (ac : Option Addr) (nc cc : Nat) (hnc : nc ≤ 200) (la : List Bool) (ru : List Int) (hla : la.length = nc) (hru : ru.length = nc) (vr vi vo vl ve vR vT : Value) (tags : List Int) (htl : tags.length ≤ 1000) (μ : List Asrt) (w0 w : World) (F : Nat → Prop) (hF : ∀ b, F b → b < w0.heap.size) (h2 : ((Enc.int .i64).sl 8).R F w0 [vr] ru) (h5 : (Enc.bool.sl 1).R F w0 [vl] la) (hrr : ∀ i, i < nc → 0 ≤ ru.getD i 0 ∧ ru.getD i 0 < 100) (h : St w0 w (Dm.base gm gS cS gk nD (.slice ac nc cc) vr vi vo vl ve vR vT W D tags μ)) :
    Calls Try.prog 97 #[.pointer (some ⟨gm, 0, none⟩), Dm.setV [a, b, c, d]] w fun e w' => ∃ kl gS' cS' vT', keyOf Try.prog 177 (Dm.setV [a, b, c, d]) = some kl ∧ e = .returned (.int .i64 (W.length : Int)) ∧ St w0 w' (Dm.base gm gS' cS' gk (nD + 1) (.slice ac nc cc) vr vi vo vl ve vR vT' (W ++ [[a, b, c, d]]) (D.put kl (.lit (.int .i64 (W.length : Int)))) (tags ++ [Dm.tagK la ru [a, b, c, d] nc]) μ) := by
  obtain ⟨kl, hkl⟩ := Dm.setKey ht
  obtain ⟨hhas, hat⟩ := hD.2 _ kl hkl
  rw [hh] at hhas
  have HKL := Lib.hid hkl
  have HAT := Lib.hid hat
  obtain ⟨ar, br, or, cr, rfl, -, r3, r4⟩ := slInt h2
  obtain ⟨al, bl, ol, cl, rfl, -, l3, l4⟩ := slBool h5
  have R3 := Lib.hid r3; have R4 := Lib.hid r4; have L3 := Lib.hid l3; have L4 := Lib.hid l4
  have HRR := Lib.hid hrr
  have HRU := Lib.hid hru
  have HHS := Lib.hid (fun W' (i : Nat) (hi : i < 256) => setHas_any [a, b, c, d] i hi ht W')
  have HST := Lib.hid (h.alloc (Dm.setA [a, b, c, d]) 177).drew
  have hWi : (W.length : Int) ≤ 1000 := by omega
  have hnci : (nc : Int) ≤ 200 := by omega
  generalize numAt L [a, b, c, d] = num at *
  subst hla
  clear hD hh hkl hat h h2 h5 r3 r4 l3 l4 hF ht hrr hru
  have q0 : World.cell? _ ⟨w.heap.size, 0, none⟩ = some (Dm.wV a) := (HST.out.nth 0 rfl).celAt (i := 0) rfl
  have q1 : World.cell? _ ⟨w.heap.size, 1, none⟩ = some (Dm.wV b) := (HST.out.nth 0 rfl).celAt (i := 1) rfl
  have q2 : World.cell? _ ⟨w.heap.size, 2, none⟩ = some (Dm.wV c) := (HST.out.nth 0 rfl).celAt (i := 2) rfl
  have q3 : World.cell? _ ⟨w.heap.size, 3, none⟩ = some (Dm.wV d) := (HST.out.nth 0 rfl).celAt (i := 3) rfl
  have x6 : World.cell? _ ⟨gm, 6, none⟩ = some (.slice (some ⟨gS, 0, none⟩) W.length cS) := (HST.out.nth 1 rfl).celAt (i := 6) rfl
  have x7 : World.cell? _ ⟨gm, 7, none⟩ = some (.map (some gk)) := (HST.out.nth 1 rfl).celAt (i := 7) rfl
  have HOWN := Lib.hid (HST.out.nth 3 rfl).mapOwn
  unfold Dm.setV Dm.setA
  simp only [List.map_cons, List.map_nil]
  go_enter Try.func97, Try.ntmps97
  go_wp2_with (fail)
  refine wp_region_held_drew (S := (fun w' => w'.cell? ⟨w.heap.size, 0, none⟩ = some (Dm.wV a) ∧ w'.cell? ⟨w.heap.size, 1, none⟩ = some (Dm.wV b) ∧ w'.cell? ⟨w.heap.size, 2, none⟩ = some (Dm.wV c) ∧ w'.cell? ⟨w.heap.size, 3, none⟩ = some (Dm.wV d) ∧ w'.cell? ⟨gm, 7, none⟩ = some (.map (some gk)))) (by kernel_rfl) ?_ (fun hHeld => ?_)
  · (try dsimp only); (exact ⟨q0, q1, q2, q3, x7⟩)

  refine wpAnyH_take (i := 0) (v := ?_) rfl (by kernel_rfl) (by kernel_rfl) (by kernel_rfl) (fun _ _ _ h => h) (Or.inl ⟨by rfl, ?_⟩) (by assumption) ?_
  rotate_left; focus (intro w hSw; (try dsimp only at hSw); go_simp; try (with_reducible rfl); done)
  try simp only [List.getElem_toArray, List.getElem_cons_zero, List.getElem_cons_succ, Act.put, List.setIfInBounds_toArray, List.set_cons_zero, List.set_cons_succ]
  refine wpAnyH_take (i := 1) (v := ?_) rfl (by kernel_rfl) (by kernel_rfl) (by kernel_rfl) (fun _ _ _ h => h) (Or.inl ⟨by rfl, ?_⟩) (by assumption) ?_
  rotate_left; focus (intro w hSw; (try dsimp only at hSw); go_simp; try (with_reducible rfl); done)
  try simp only [List.getElem_toArray, List.getElem_cons_zero, List.getElem_cons_succ, Act.put, List.setIfInBounds_toArray, List.set_cons_zero, List.set_cons_succ]
  refine wpAnyH_take (i := 2) (v := ?_) rfl (by kernel_rfl) (by kernel_rfl) (by kernel_rfl) (fun _ _ _ h => h) (Or.inl ⟨by rfl, ?_⟩) (by assumption) ?_
  rotate_left; focus (intro w hSw; (try dsimp only at hSw); go_simp; try (with_reducible rfl); done)
  try simp only [List.getElem_toArray, List.getElem_cons_zero, List.getElem_cons_succ, Act.put, List.setIfInBounds_toArray, List.set_cons_zero, List.set_cons_succ]
  refine wpAnyH_take (i := 3) (v := ?_) rfl (by kernel_rfl) (by kernel_rfl) (by kernel_rfl) (fun _ _ _ h => h) (Or.inl ⟨by rfl, ?_⟩) (by assumption) ?_
  rotate_left; focus (intro w hSw; (try dsimp only at hSw); go_simp; try (with_reducible rfl); done)
  try simp only [List.getElem_toArray, List.getElem_cons_zero, List.getElem_cons_succ, Act.put, List.setIfInBounds_toArray, List.set_cons_zero, List.set_cons_succ]
  refine wpAnyH_take (i := 4) (v := ?_) rfl (by kernel_rfl) (by kernel_rfl) (by kernel_rfl) (fun _ _ _ h => h) (Or.inl ⟨by rfl, ?_⟩) (by assumption) ?_
  rotate_left; focus (intro w hSw; (try dsimp only at hSw); go_simp; try (with_reducible rfl); done)
  try simp only [List.getElem_toArray, List.getElem_cons_zero, List.getElem_cons_succ, Act.put, List.setIfInBounds_toArray, List.set_cons_zero, List.set_cons_succ]
  refine wpAnyH_ready (rs := [5]) (by kernel_rfl) (by simp) ?_
  refine AllReadyH.cons rfl (fun K hK => ?_) AllReadyH.nil
  (refine St.stepLookOk rfl (.tmp 13) (.tmp 14) rfl Dm.akey.law Try.underlying91 Try.underlying3 Dm.zeroE HOWN.out rfl (Dm.setV [a, b, c, d]) rfl HKL.out num HAT.out ?_)
  refine hK.out _ _ ?_ (fun hHeld => ?_)
  · (try dsimp only); (exact ⟨q0, q1, q2, q3, x7⟩)
  clear hK K
  try simp only [List.getElem_toArray, List.getElem_cons_zero, List.getElem_cons_succ, Act.put, List.setIfInBounds_toArray, List.set_cons_zero, List.set_cons_succ]
  refine wpAnyH_take (i := 6) (v := ?_) rfl (by kernel_rfl) (by kernel_rfl) (by kernel_rfl) (fun _ _ _ h => h) (Or.inl ⟨by rfl, ?_⟩) (by assumption) ?_
  rotate_left; focus (intro w hSw; (try dsimp only at hSw); go_simp; try (with_reducible rfl); done)
  try simp only [List.getElem_toArray, List.getElem_cons_zero, List.getElem_cons_succ, Act.put, List.setIfInBounds_toArray, List.set_cons_zero, List.set_cons_succ]
  refine wpAnyH_take (i := 7) (v := ?_) rfl (by kernel_rfl) (by kernel_rfl) (by kernel_rfl) (fun _ _ _ h => h) (Or.inl ⟨by rfl, ?_⟩) (by assumption) ?_
  rotate_left; focus (intro w hSw; (try dsimp only at hSw); go_simp; try (with_reducible rfl); done)
  try simp only [List.getElem_toArray, List.getElem_cons_zero, List.getElem_cons_succ, Act.put, List.setIfInBounds_toArray, List.set_cons_zero, List.set_cons_succ]
  refine wpAnyH_take (i := 8) (v := ?_) rfl (by kernel_rfl) (by kernel_rfl) (by kernel_rfl) (fun _ _ _ h => h) (Or.inl ⟨by rfl, ?_⟩) (by assumption) ?_
  rotate_left; focus (intro w hSw; (try dsimp only at hSw); go_simp; try (with_reducible rfl); done)
  try simp only [List.getElem_toArray, List.getElem_cons_zero, List.getElem_cons_succ, Act.put, List.setIfInBounds_toArray, List.set_cons_zero, List.set_cons_succ]
  refine wpAnyH_take (i := 9) (v := ?_) rfl (by kernel_rfl) (by kernel_rfl) (by kernel_rfl) (fun _ _ _ h => h) (Or.inl ⟨by rfl, ?_⟩) (by assumption) ?_
  rotate_left; focus (intro w hSw; (try dsimp only at hSw); go_simp; try (with_reducible rfl); done)
  try simp only [List.getElem_toArray, List.getElem_cons_zero, List.getElem_cons_succ, Act.put, List.setIfInBounds_toArray, List.set_cons_zero, List.set_cons_succ]
  refine wpAnyH_take (i := 10) (v := ?_) rfl (by kernel_rfl) (by kernel_rfl) (by kernel_rfl) (fun _ _ _ h => h) (Or.inl ⟨by rfl, ?_⟩) (by assumption) ?_
  rotate_left; focus (intro w hSw; (try dsimp only at hSw); go_simp; try (with_reducible rfl); done)
  try simp only [List.getElem_toArray, List.getElem_cons_zero, List.getElem_cons_succ, Act.put, List.setIfInBounds_toArray, List.set_cons_zero, List.set_cons_succ]
  refine wpAnyH_done (by kernel_rfl) ?_ _
  go_wp2_with (fail)
  refine wp_region_held_drew (S := (fun w' => w'.cell? ⟨w.heap.size, 0, none⟩ = some (Dm.wV a) ∧ w'.cell? ⟨w.heap.size, 1, none⟩ = some (Dm.wV b) ∧ w'.cell? ⟨w.heap.size, 2, none⟩ = some (Dm.wV c) ∧ w'.cell? ⟨w.heap.size, 3, none⟩ = some (Dm.wV d) ∧ w'.cell? ⟨gm, 6, none⟩ = some (.slice (some ⟨gS, 0, none⟩) W.length cS) ∧ w'.cell? ⟨gm, 7, none⟩ = some (.map (some gk)))) (by kernel_rfl) ?_ (fun hHeld => ?_)
  · (try dsimp only); (first | exact ⟨q0, q1, q2, q3, x6, x7⟩ | exact ⟨q0b, q1b, q2b, q3b, x6b, x7b⟩)

  refine wpAnyH_take (i := 0) (v := ?_) rfl (by kernel_rfl) (by kernel_rfl) (by kernel_rfl) (fun _ _ _ h => h) (Or.inl ⟨by rfl, ?_⟩) (by assumption) ?_
  rotate_left; focus (intro w hSw; (try dsimp only at hSw); go_simp; try (with_reducible rfl); done)
  try simp only [List.getElem_toArray, List.getElem_cons_zero, List.getElem_cons_succ, Act.put, List.setIfInBounds_toArray, List.set_cons_zero, List.set_cons_succ]
  refine wpAnyH_take (i := 1) (v := ?_) rfl (by kernel_rfl) (by kernel_rfl) (by kernel_rfl) (fun _ _ _ h => h) (Or.inl ⟨by rfl, ?_⟩) (by assumption) ?_
  rotate_left; focus (intro w hSw; (try dsimp only at hSw); go_simp; try (with_reducible rfl); done)
  try simp only [List.getElem_toArray, List.getElem_cons_zero, List.getElem_cons_succ, Act.put, List.setIfInBounds_toArray, List.set_cons_zero, List.set_cons_succ]
  refine wpAnyH_take (i := 2) (v := ?_) rfl (by kernel_rfl) (by kernel_rfl) (by kernel_rfl) (fun _ _ _ h => h) (Or.inl ⟨by rfl, ?_⟩) (by assumption) ?_
  rotate_left; focus (intro w hSw; (try dsimp only at hSw); go_simp; try (with_reducible rfl); done)
  try simp only [List.getElem_toArray, List.getElem_cons_zero, List.getElem_cons_succ, Act.put, List.setIfInBounds_toArray, List.set_cons_zero, List.set_cons_succ]
  refine wpAnyH_take (i := 3) (v := ?_) rfl (by kernel_rfl) (by kernel_rfl) (by kernel_rfl) (fun _ _ _ h => h) (Or.inl ⟨by rfl, ?_⟩) (by assumption) ?_
  rotate_left; focus (intro w hSw; (try dsimp only at hSw); go_simp; try (with_reducible rfl); done)
  try simp only [List.getElem_toArray, List.getElem_cons_zero, List.getElem_cons_succ, Act.put, List.setIfInBounds_toArray, List.set_cons_zero, List.set_cons_succ]
  refine wpAnyH_take (i := 4) (v := ?_) rfl (by kernel_rfl) (by kernel_rfl) (by kernel_rfl) (fun _ _ _ h => h) (Or.inl ⟨by rfl, ?_⟩) (by assumption) ?_
  rotate_left; focus (intro w hSw; (try dsimp only at hSw); go_simp; try (with_reducible rfl); done)
  try simp only [List.getElem_toArray, List.getElem_cons_zero, List.getElem_cons_succ, Act.put, List.setIfInBounds_toArray, List.set_cons_zero, List.set_cons_succ]
  refine wpAnyH_take (i := 5) (v := ?_) rfl (by kernel_rfl) (by kernel_rfl) (by kernel_rfl) (fun _ _ _ h => h) (Or.inl ⟨by rfl, ?_⟩) (by assumption) ?_
  rotate_left; focus (intro w hSw; (try dsimp only at hSw); go_simp; try (with_reducible rfl); done)
  try simp only [List.getElem_toArray, List.getElem_cons_zero, List.getElem_cons_succ, Act.put, List.setIfInBounds_toArray, List.set_cons_zero, List.set_cons_succ]
  refine wpAnyH_take (i := 6) (v := ?_) rfl (by kernel_rfl) (by kernel_rfl) (by kernel_rfl) (fun _ _ _ h => h) (Or.inl ⟨by rfl, ?_⟩) (by assumption) ?_
  rotate_left; focus (intro w hSw; (try dsimp only at hSw); go_simp; try (with_reducible rfl); done)
  try simp only [List.getElem_toArray, List.getElem_cons_zero, List.getElem_cons_succ, Act.put, List.setIfInBounds_toArray, List.set_cons_zero, List.set_cons_succ]
  refine wpAnyH_take (i := 7) (v := ?_) rfl (by kernel_rfl) (by kernel_rfl) (by kernel_rfl) (fun _ _ _ h => h) (Or.inl ⟨by rfl, ?_⟩) (by assumption) ?_
  rotate_left; focus (intro w hSw; (try dsimp only at hSw); go_simp; try (with_reducible rfl); done)
  try simp only [List.getElem_toArray, List.getElem_cons_zero, List.getElem_cons_succ, Act.put, List.setIfInBounds_toArray, List.set_cons_zero, List.set_cons_succ]
  refine wpAnyH_take (i := 8) (v := ?_) rfl (by kernel_rfl) (by kernel_rfl) (by kernel_rfl) (fun _ _ _ h => h) (Or.inl ⟨by rfl, ?_⟩) (by assumption) ?_
  rotate_left; focus (intro w hSw; (try dsimp only at hSw); go_simp; try (with_reducible rfl); done)
  try simp only [List.getElem_toArray, List.getElem_cons_zero, List.getElem_cons_succ, Act.put, List.setIfInBounds_toArray, List.set_cons_zero, List.set_cons_succ]
  refine wpAnyH_take (i := 9) (v := ?_) rfl (by kernel_rfl) (by kernel_rfl) (by kernel_rfl) (fun _ _ _ h => h) (Or.inl ⟨by rfl, ?_⟩) (by assumption) ?_
  rotate_left; focus (intro w hSw; (try dsimp only at hSw); go_simp; try (with_reducible rfl); done)
  try simp only [List.getElem_toArray, List.getElem_cons_zero, List.getElem_cons_succ, Act.put, List.setIfInBounds_toArray, List.set_cons_zero, List.set_cons_succ]
  refine wpAnyH_ready (rs := [10]) (by kernel_rfl) (by simp) ?_
  refine AllReadyH.cons rfl (fun K hK => ?_) AllReadyH.nil
  (refine St.stepPut (n := nD) (D := D) rfl (.tmp 23) (.tmp 24) (.tmp 29) rfl Dm.akey.law Try.underlying91 (St.get4 HST.out.drew) (by unfold maxLen; omega) rfl (Dm.setV [a, b, c, d]) (.int .i64 (W.length : Int)) rfl rfl HKL.out (.lit (.int .i64 (W.length : Int))) [] (plainElem_int Try.underlying3 (by simp [Lit.wf, IntKind.min, IntKind.max, IntKind.signed, IntKind.bits]; omega)) ?_; intro wA hstA; obtain ⟨q0b, q1b, q2b, q3b, x6b, x7b⟩ := (show wA.cell? ⟨w.heap.size, 0, none⟩ = some (Dm.wV a) ∧ wA.cell? ⟨w.heap.size, 1, none⟩ = some (Dm.wV b) ∧ wA.cell? ⟨w.heap.size, 2, none⟩ = some (Dm.wV c) ∧ wA.cell? ⟨w.heap.size, 3, none⟩ = some (Dm.wV d) ∧ wA.cell? ⟨gm, 6, none⟩ = some (.slice (some ⟨gS, 0, none⟩) W.length cS) ∧ wA.cell? ⟨gm, 7, none⟩ = some (.map (some gk)) from ⟨(hstA.nth 1 rfl).celAt (i := 0) rfl, (hstA.nth 1 rfl).celAt (i := 1) rfl, (hstA.nth 1 rfl).celAt (i := 2) rfl, (hstA.nth 1 rfl).celAt (i := 3) rfl, (hstA.nth 2 rfl).celAt (i := 6) rfl, (hstA.nth 2 rfl).celAt (i := 7) rfl⟩); have HSTA := Lib.hid hstA; clear hstA)
  refine hK.out _ _ ?_ (fun hHeld => ?_)
  · (try dsimp only); (first | exact ⟨q0, q1, q2, q3, x6, x7⟩ | exact ⟨q0b, q1b, q2b, q3b, x6b, x7b⟩)
  clear hK K
  try simp only [List.getElem_toArray, List.getElem_cons_zero, List.getElem_cons_succ, Act.put, List.setIfInBounds_toArray, List.set_cons_zero, List.set_cons_succ]
  refine wpAnyH_done (by kernel_rfl) ?_ _
  go_wp2_with (fail)
  have x6e : (wA.alloc (.cells #[Dm.wV a, Dm.wV b, Dm.wV c, Dm.wV d] 177)).cell? ⟨gm, 6, none⟩ = some (.slice (some ⟨gS, 0, none⟩) W.length cS) := bkeep ((Below.refl _ _).alloc (Nat.le_refl _) _) x6b
  refine wp_region_held_drew (S := (fun w' => w'.cell? ⟨w.heap.size, 0, none⟩ = some (Dm.wV a) ∧ w'.cell? ⟨w.heap.size, 1, none⟩ = some (Dm.wV b) ∧ w'.cell? ⟨w.heap.size, 2, none⟩ = some (Dm.wV c) ∧ w'.cell? ⟨w.heap.size, 3, none⟩ = some (Dm.wV d))) (by kernel_rfl) ?_ (fun hHeld => ?_)
  · (try dsimp only); (first | exact ⟨q0b, q1b, q2b, q3b⟩ | exact ⟨bkeep ((Below.refl _ _).alloc (Nat.le_refl _) _) q0b, bkeep ((Below.refl _ _).alloc (Nat.le_refl _) _) q1b, bkeep ((Below.refl _ _).alloc (Nat.le_refl _) _) q2b, bkeep ((Below.refl _ _).alloc (Nat.le_refl _) _) q3b⟩ | exact ⟨q0c, q1c, q2c, q3c⟩ | exact ⟨q0d, q1d, q2d, q3d⟩)

  refine wpAnyH_take (i := 0) (v := ?_) rfl (by kernel_rfl) (by kernel_rfl) (by kernel_rfl) (fun _ _ _ h => h) (Or.inl ⟨by rfl, ?_⟩) (by assumption) ?_
  rotate_left; focus (intro w hSw; (try dsimp only at hSw); go_simp; try (with_reducible rfl); done)
  try simp only [List.getElem_toArray, List.getElem_cons_zero, List.getElem_cons_succ, Act.put, List.setIfInBounds_toArray, List.set_cons_zero, List.set_cons_succ]
  refine wpAnyH_take (i := 1) (v := ?_) rfl (by kernel_rfl) (by kernel_rfl) (by kernel_rfl) (fun _ _ _ h => h) (Or.inl ⟨by rfl, ?_⟩) (by assumption) ?_
  rotate_left; focus (intro w hSw; (try dsimp only at hSw); go_simp; try (with_reducible rfl); done)
  try simp only [List.getElem_toArray, List.getElem_cons_zero, List.getElem_cons_succ, Act.put, List.setIfInBounds_toArray, List.set_cons_zero, List.set_cons_succ]
  refine wpAnyH_take (i := 2) (v := ?_) rfl (by kernel_rfl) (by kernel_rfl) (by kernel_rfl) (fun _ _ _ h => h) (Or.inl ⟨by rfl, ?_⟩) (by assumption) ?_
  rotate_left; focus (intro w hSw; (try dsimp only at hSw); go_simp; try (with_reducible rfl); done)
  try simp only [List.getElem_toArray, List.getElem_cons_zero, List.getElem_cons_succ, Act.put, List.setIfInBounds_toArray, List.set_cons_zero, List.set_cons_succ]
  refine wpAnyH_take (i := 3) (v := ?_) rfl (by kernel_rfl) (by kernel_rfl) (by kernel_rfl) (fun _ _ _ h => h) (Or.inl ⟨by rfl, ?_⟩) (by assumption) ?_
  rotate_left; focus (intro w hSw; (try dsimp only at hSw); go_simp; try (with_reducible rfl); done)
  try simp only [List.getElem_toArray, List.getElem_cons_zero, List.getElem_cons_succ, Act.put, List.setIfInBounds_toArray, List.set_cons_zero, List.set_cons_succ]
  refine wpAnyH_take (i := 5) (v := ?_) rfl (by kernel_rfl) (by kernel_rfl) (by kernel_rfl) (fun _ _ _ h => h) (Or.inl ⟨by rfl, ?_⟩) (by assumption) ?_
  rotate_left; focus (intro w hSw; (try dsimp only at hSw); go_simp; try (with_reducible rfl); done)
  try simp only [List.getElem_toArray, List.getElem_cons_zero, List.getElem_cons_succ, Act.put, List.setIfInBounds_toArray, List.set_cons_zero, List.set_cons_succ]
  refine wpAnyH_ready (rs := [4, 6]) (by kernel_rfl) (by simp) ?_
  refine AllReadyH.cons rfl (fun K hK => ?_) (AllReadyH.cons rfl (fun K hK => ?_) (AllReadyH.nil))
  · skip
    go_simp
    refine hK.out _ _ ?_ (fun hHeld => ?_)
    · (try dsimp only); (first | exact ⟨q0b, q1b, q2b, q3b⟩ | exact ⟨bkeep ((Below.refl _ _).alloc (Nat.le_refl _) _) q0b, bkeep ((Below.refl _ _).alloc (Nat.le_refl _) _) q1b, bkeep ((Below.refl _ _).alloc (Nat.le_refl _) _) q2b, bkeep ((Below.refl _ _).alloc (Nat.le_refl _) _) q3b⟩ | exact ⟨q0c, q1c, q2c, q3c⟩ | exact ⟨q0d, q1d, q2d, q3d⟩)
    clear hK K
    try simp only [List.getElem_toArray, List.getElem_cons_zero, List.getElem_cons_succ, Act.put, List.setIfInBounds_toArray, List.set_cons_zero, List.set_cons_succ]
    refine wpAnyH_ready (rs := [6]) (by kernel_rfl) (by simp) ?_
    refine AllReadyH.cons rfl (fun K hK => ?_) (AllReadyH.nil)
    go_simp
    refine hK.out _ _ ?_ (fun hHeld => ?_)
    · (try dsimp only); (first | exact ⟨q0b, q1b, q2b, q3b⟩ | exact ⟨bkeep ((Below.refl _ _).alloc (Nat.le_refl _) _) q0b, bkeep ((Below.refl _ _).alloc (Nat.le_refl _) _) q1b, bkeep ((Below.refl _ _).alloc (Nat.le_refl _) _) q2b, bkeep ((Below.refl _ _).alloc (Nat.le_refl _) _) q3b⟩ | exact ⟨q0c, q1c, q2c, q3c⟩ | exact ⟨q0d, q1d, q2d, q3d⟩)
    clear hK K
    try simp only [List.getElem_toArray, List.getElem_cons_zero, List.getElem_cons_succ, Act.put, List.setIfInBounds_toArray, List.set_cons_zero, List.set_cons_succ]
    refine wpAnyH_ready (rs := [7]) (by kernel_rfl) (by simp) ?_
    refine AllReadyH.cons rfl (fun K hK => ?_) AllReadyH.nil
    (refine St.step1n (W := wA.drew) (T := 177) (cs := #[Dm.wV a, Dm.wV b, Dm.wV c, Dm.wV d]) Dm.setE rfl (.tmp 34) (.tmp 36) rfl rfl HSTA.out.drew.get4 (Dm.setV [a, b, c, d]) rfl wA.drew.heap.size 1 rfl rfl rfl (Dm.setV_one _) (by rw [List.length_map]; unfold maxLen; omega) (by rw [List.length_map]; omega) ?_; intro g' n' c' wB hstB; obtain rfl : n' = W.length + 1 := (by have := hstB.own.len; simpa using this); obtain ⟨q0c, q1c, q2c, q3c⟩ := (show (wB).cell? ⟨w.heap.size, 0, none⟩ = some (Dm.wV a) ∧ (wB).cell? ⟨w.heap.size, 1, none⟩ = some (Dm.wV b) ∧ (wB).cell? ⟨w.heap.size, 2, none⟩ = some (Dm.wV c) ∧ (wB).cell? ⟨w.heap.size, 3, none⟩ = some (Dm.wV d) from ⟨(hstB.nth 2 rfl).celAt (i := 0) rfl, (hstB.nth 2 rfl).celAt (i := 1) rfl, (hstB.nth 2 rfl).celAt (i := 2) rfl, (hstB.nth 2 rfl).celAt (i := 3) rfl⟩); have x6c := (hstB.nth 3 rfl).celAt (i := 6) rfl; have xf6 := (hstB.nth 3 rfl).celFree 6; have hstC := hstB.get4.setCel 6 (.slice (some ⟨g', 0, none⟩) (W.length + 1) c'); obtain ⟨q0d, q1d, q2d, q3d⟩ := (show (wB.setCell ⟨gm, 6, none⟩ (.slice (some ⟨g', 0, none⟩) (W.length + 1) c')).cell? ⟨w.heap.size, 0, none⟩ = some (Dm.wV a) ∧ (wB.setCell ⟨gm, 6, none⟩ (.slice (some ⟨g', 0, none⟩) (W.length + 1) c')).cell? ⟨w.heap.size, 1, none⟩ = some (Dm.wV b) ∧ (wB.setCell ⟨gm, 6, none⟩ (.slice (some ⟨g', 0, none⟩) (W.length + 1) c')).cell? ⟨w.heap.size, 2, none⟩ = some (Dm.wV c) ∧ (wB.setCell ⟨gm, 6, none⟩ (.slice (some ⟨g', 0, none⟩) (W.length + 1) c')).cell? ⟨w.heap.size, 3, none⟩ = some (Dm.wV d) from ⟨(hstC.nth 3 rfl).celAt (i := 0) rfl, (hstC.nth 3 rfl).celAt (i := 1) rfl, (hstC.nth 3 rfl).celAt (i := 2) rfl, (hstC.nth 3 rfl).celAt (i := 3) rfl⟩); have HSTC := Lib.hid hstC; clear hstB hstC)
    refine hK.out _ _ ?_ (fun hHeld => ?_)
    · (try dsimp only); (first | exact ⟨q0b, q1b, q2b, q3b⟩ | exact ⟨bkeep ((Below.refl _ _).alloc (Nat.le_refl _) _) q0b, bkeep ((Below.refl _ _).alloc (Nat.le_refl _) _) q1b, bkeep ((Below.refl _ _).alloc (Nat.le_refl _) _) q2b, bkeep ((Below.refl _ _).alloc (Nat.le_refl _) _) q3b⟩ | exact ⟨q0c, q1c, q2c, q3c⟩ | exact ⟨q0d, q1d, q2d, q3d⟩)
    clear hK K
    try simp only [List.getElem_toArray, List.getElem_cons_zero, List.getElem_cons_succ, Act.put, List.setIfInBounds_toArray, List.set_cons_zero, List.set_cons_succ]
    refine wpAnyH_take (i := 8) (v := ?_) rfl (by kernel_rfl) (by kernel_rfl) (by kernel_rfl) (fun _ _ _ h => h) (Or.inl ⟨by rfl, ?_⟩) (by assumption) ?_
    rotate_left; focus (intro w hSw; (try dsimp only at hSw); go_simp; try (with_reducible rfl); done)
    try simp only [List.getElem_toArray, List.getElem_cons_zero, List.getElem_cons_succ, Act.put, List.setIfInBounds_toArray, List.set_cons_zero, List.set_cons_succ]
    refine wpAnyH_take (i := 9) (v := ?_) rfl (by kernel_rfl) (by kernel_rfl) (by kernel_rfl) (fun _ _ _ h => h) (Or.inl ⟨by rfl, ?_⟩) (by assumption) ?_
    rotate_left; focus (intro w hSw; (try dsimp only at hSw); go_simp; try (with_reducible rfl); done)
    try simp only [List.getElem_toArray, List.getElem_cons_zero, List.getElem_cons_succ, Act.put, List.setIfInBounds_toArray, List.set_cons_zero, List.set_cons_succ]
    refine wpAnyH_ready (rs := [10]) (by kernel_rfl) (by simp) ?_
    refine AllReadyH.cons rfl (fun K hK => ?_) AllReadyH.nil
    go_simp
    refine hK.out _ _ ?_ (fun hHeld => ?_)
    · (try dsimp only); (first | exact ⟨q0b, q1b, q2b, q3b⟩ | exact ⟨bkeep ((Below.refl _ _).alloc (Nat.le_refl _) _) q0b, bkeep ((Below.refl _ _).alloc (Nat.le_refl _) _) q1b, bkeep ((Below.refl _ _).alloc (Nat.le_refl _) _) q2b, bkeep ((Below.refl _ _).alloc (Nat.le_refl _) _) q3b⟩ | exact ⟨q0c, q1c, q2c, q3c⟩ | exact ⟨q0d, q1d, q2d, q3d⟩)
    clear hK K
    try simp only [List.getElem_toArray, List.getElem_cons_zero, List.getElem_cons_succ, Act.put, List.setIfInBounds_toArray, List.set_cons_zero, List.set_cons_succ]
    refine wpAnyH_done (by kernel_rfl) ?_ _
    have HSTE := Lib.hid (show St w0 _ (aCel gm 93 #[.slice ac la.length cc, .slice ar ru.length cr, vi, vo, .slice al la.length cl, ve, .slice (some ⟨g', 0, none⟩) (W.length + 1) c', .map (some gk), vR, vT] :: aOwn 177 4 (.slice (some ⟨g', 0, none⟩) (W.length + 1) c') (W.map Dm.setV ++ [Dm.setV [a, b, c, d]]) :: aMap 177 3 gk (nD + 1) (D.put kl (.lit (.int .i64 (W.length : Int)))) :: aCel w.heap.size 177 (Dm.setA [a, b, c, d]) :: aOwn 3 1 vT (tags.map (Value.int .i64)) :: μ) from HSTC.out)
    clear HSTC q0 q1 q2 q3 x6 x7 q0b q1b q2b q3b x6b x7b q0c q1c q2c q3c x6c xf6 q0d q1d q2d q3d HSTA HST
    generalize wB.setCell ⟨gm, 6, none⟩ (.slice (some ⟨g', 0, none⟩) (W.length + 1) c') = wC at *
    have x0 := (HSTE.out.nth 0 rfl).celAt (i := 0) rfl
    go_wp2_with (fail)
    go_loopg [7, 46] la.length (fun gz v7 v46 wr => ∃ (i : Nat), i ≤ la.length ∧ gz = la.length - i ∧ v46 = .int .i64 i ∧ v7 = .int .i64 (Dm.tagK la ru [a, b, c, d] i) ∧ St w0 wr (aCel gm 93 #[.slice ac la.length cc, .slice ar ru.length cr, vi, vo, .slice al la.length cl, ve, .slice (some ⟨g', 0, none⟩) (W.length + 1) c', .map (some gk), vR, vT] :: aOwn 177 4 (.slice (some ⟨g', 0, none⟩) (W.length + 1) c') (W.map Dm.setV ++ [Dm.setV [a, b, c, d]]) :: aMap 177 3 gk (nD + 1) (D.put kl (.lit (.int .i64 (W.length : Int)))) :: aCel w.heap.size 177 (Dm.setA [a, b, c, d]) :: aOwn 3 1 vT (tags.map (Value.int .i64)) :: μ))
    case atStart => exact ⟨0, by omega, by omega, rfl, rfl, HSTE.out⟩
    case round =>
      clear HSTE x0
      obtain ⟨i, hi, hgk, rfl, rfl, hst⟩ := hrel
      have HGK := Lib.hid hgk
      clear hgk
      have x0 := (hst.nth 0 rfl).celAt (i := 0) rfl
      by_cases hlt : i < la.length
      · have hir : (i : Int) < (ru.length : Int) := by have := HRU.out; omega
        obtain ⟨rfl, -, -⟩ := L3.out (by omega)
        obtain ⟨rfl, -, -⟩ := R3.out (by omega)
        have c0 := bkeep hst.bel (L4.out i hlt)
        have d0 := bkeep hst.bel (R4.out i (by omega)).1
        have x1 := (hst.nth 0 rfl).celAt (i := 1) rfl
        have x4 := (hst.nth 0 rfl).celAt (i := 4) rfl
        have q0 := (hst.nth 3 rfl).celAt (i := 0) rfl
        have q1 := (hst.nth 3 rfl).celAt (i := 1) rfl
        have q2 := (hst.nth 3 rfl).celAt (i := 2) rfl
        have q3 := (hst.nth 3 rfl).celAt (i := 3) rfl
        have HT := Lib.hid (show Dm.tagK la ru [a, b, c, d] (i + 1) = if (Dm.mem [a, b, c, d] i && la.getD i false && (decide (Dm.tagK la ru [a, b, c, d] i < 0) || decide (ru.getD i 0 < Dm.tagK la ru [a, b, c, d] i))) = true then ru.getD i 0 else Dm.tagK la ru [a, b, c, d] i from rfl)
        have C0 := Lib.hid (L4.out i hlt); have D0 := Lib.hid (R4.out i (by omega)).1
        obtain ⟨Z, hZ⟩ : ∃ Z, Dm.tagK la ru [a, b, c, d] (i + 1) = Z := ⟨_, rfl⟩
        rw [hZ] at HT
        have HZ := Lib.hid hZ
        clear hZ
        have HH := Lib.hid (fun W' => HHS.out W' i (by omega))
        have HST := Lib.hid hst
        clear hst
        generalize Dm.tagK la ru [a, b, c, d] i = X at *
        generalize ru.getD i 0 = Y at *
        generalize Dm.mem [a, b, c, d] i = B at *
        generalize la.getD i false = C at *
        go_wp2_with (fail)
        go_at_call 94
        refine (HH.out _).mono ?_
        clear x1 x4 c0 d0
        rintro e w5 ⟨rfl, hb5⟩
        have HST := Lib.hid (HST.out.call hb5)
        have x1 := (HST.out.nth 0 rfl).celAt (i := 1) rfl
        have x4 := (HST.out.nth 0 rfl).celAt (i := 4) rfl
        have c0 := bkeep HST.out.bel C0.out
        have d0 := bkeep HST.out.bel D0.out
        clear hb5
        cases B
        · have HU := Lib.hid (show Z = X by rw [HT.out]; rfl)
          go_wp2
          go_roundg (la.length - (i + 1))
          case measure => have := HGK.out; omega
          case rel => exact ⟨i + 1, by omega, rfl, by go_num, by rw [HZ.out, HU.out], HST.out⟩
        · cases C
          · have HU := Lib.hid (show Z = X by rw [HT.out]; rfl)
            go_wp2
            go_roundg (la.length - (i + 1))
            case measure => have := HGK.out; omega
            case rel => exact ⟨i + 1, by omega, rfl, by go_num, by rw [HZ.out, HU.out], HST.out⟩
          · by_cases hX : X < 0
            · have HU := Lib.hid (show Z = Y by rw [HT.out]; simp [hX])
              go_wp2
              go_roundg (la.length - (i + 1))
              case measure => have := HGK.out; omega
              case rel => exact ⟨i + 1, by omega, rfl, by go_num, by rw [HZ.out, HU.out], HST.out⟩
            · by_cases hY : Y < X
              · have HU := Lib.hid (show Z = Y by rw [HT.out]; simp [hX, hY])
                go_wp2
                go_roundg (la.length - (i + 1))
                case measure => have := HGK.out; omega
                case rel => exact ⟨i + 1, by omega, rfl, by go_num, by rw [HZ.out, HU.out], HST.out⟩
              · have HU := Lib.hid (show Z = X by rw [HT.out]; simp [hX, hY])
                go_wp2
                go_roundg (la.length - (i + 1))
                case measure => have := HGK.out; omega
                case rel => exact ⟨i + 1, by omega, rfl, by go_num, by rw [HZ.out, HU.out], HST.out⟩
      · obtain rfl : i = la.length := by omega
        have x9 := (hst.nth 0 rfl).celAt (i := 9) rfl
        have x6 := (hst.nth 0 rfl).celAt (i := 6) rfl
        have HST := Lib.hid hst.get5
        clear hst x0
        obtain ⟨X, hXE⟩ : ∃ X, Dm.tagK la ru [a, b, c, d] la.length = X := ⟨_, rfl⟩
        rw [hXE]
        have HXE := Lib.hid hXE
        clear hXE
        go_wp2_with (at_builtin; refine St.app1n intE rfl (.tmp 92) (.tmp 94) rfl rfl HST.out (.int .i64 X) rfl wr.heap.size 1 rfl rfl rfl (by intro q hq; simp [Value.cells] at hq; subst hq; rfl) (by rw [List.length_map]; unfold maxLen; omega) (by rw [List.length_map]; omega) ?_; intro g2 n2 c2 wB hstB; clear x9 x6; have x9 := (hstB.nth 1 rfl).celAt (i := 9) rfl; have xf9 := (hstB.nth 1 rfl).celFree 9; have x6 := (hstB.nth 1 rfl).celAt (i := 6) rfl; have HSTB := Lib.hid (hstB.get2.setCel 9 (.slice (some ⟨g2, 0, none⟩) n2 c2)); clear hstB HST)
        go_ret
        have e1 : (W ++ [[a, b, c, d]]).length = W.length + 1 := by simp
        have e2 : (W ++ [[a, b, c, d]]).map Dm.setV = W.map Dm.setV ++ [Dm.setV [a, b, c, d]] := by simp
        have e3 : (tags ++ [X]).map (Value.int .i64) = tags.map (Value.int .i64) ++ [.int .i64 X] := by simp
        refine ⟨kl, g', c', .slice (some ⟨g2, 0, none⟩) n2 c2, HKL.out, by go_num, ?_⟩
        unfold Dm.base
        rw [e1, e2, HXE.out, e3]
        exact HSTB.out.pick [0, 2, 3, 1] 5 rfl rfl
  · skip
    go_simp
    refine hK.out _ _ ?_ (fun hHeld => ?_)
    · (try dsimp only); (first | exact ⟨q0b, q1b, q2b, q3b⟩ | exact ⟨bkeep ((Below.refl _ _).alloc (Nat.le_refl _) _) q0b, bkeep ((Below.refl _ _).alloc (Nat.le_refl _) _) q1b, bkeep ((Below.refl _ _).alloc (Nat.le_refl _) _) q2b, bkeep ((Below.refl _ _).alloc (Nat.le_refl _) _) q3b⟩ | exact ⟨q0c, q1c, q2c, q3c⟩ | exact ⟨q0d, q1d, q2d, q3d⟩)
    clear hK K
    try simp only [List.getElem_toArray, List.getElem_cons_zero, List.getElem_cons_succ, Act.put, List.setIfInBounds_toArray, List.set_cons_zero, List.set_cons_succ]
    refine wpAnyH_ready (rs := [4]) (by kernel_rfl) (by simp) ?_
    refine AllReadyH.cons rfl (fun K hK => ?_) (AllReadyH.nil)
    go_simp
    refine hK.out _ _ ?_ (fun hHeld => ?_)
    · (try dsimp only); (first | exact ⟨q0b, q1b, q2b, q3b⟩ | exact ⟨bkeep ((Below.refl _ _).alloc (Nat.le_refl _) _) q0b, bkeep ((Below.refl _ _).alloc (Nat.le_refl _) _) q1b, bkeep ((Below.refl _ _).alloc (Nat.le_refl _) _) q2b, bkeep ((Below.refl _ _).alloc (Nat.le_refl _) _) q3b⟩ | exact ⟨q0c, q1c, q2c, q3c⟩ | exact ⟨q0d, q1d, q2d, q3d⟩)
    clear hK K
    try simp only [List.getElem_toArray, List.getElem_cons_zero, List.getElem_cons_succ, Act.put, List.setIfInBounds_toArray, List.set_cons_zero, List.set_cons_succ]
    refine wpAnyH_ready (rs := [7]) (by kernel_rfl) (by simp) ?_
    refine AllReadyH.cons rfl (fun K hK => ?_) AllReadyH.nil
    (refine St.step1n (W := wA.drew) (T := 177) (cs := #[Dm.wV a, Dm.wV b, Dm.wV c, Dm.wV d]) Dm.setE rfl (.tmp 34) (.tmp 36) rfl rfl HSTA.out.drew.get4 (Dm.setV [a, b, c, d]) rfl wA.drew.heap.size 1 rfl rfl rfl (Dm.setV_one _) (by rw [List.length_map]; unfold maxLen; omega) (by rw [List.length_map]; omega) ?_; intro g' n' c' wB hstB; obtain rfl : n' = W.length + 1 := (by have := hstB.own.len; simpa using this); obtain ⟨q0c, q1c, q2c, q3c⟩ := (show (wB).cell? ⟨w.heap.size, 0, none⟩ = some (Dm.wV a) ∧ (wB).cell? ⟨w.heap.size, 1, none⟩ = some (Dm.wV b) ∧ (wB).cell? ⟨w.heap.size, 2, none⟩ = some (Dm.wV c) ∧ (wB).cell? ⟨w.heap.size, 3, none⟩ = some (Dm.wV d) from ⟨(hstB.nth 2 rfl).celAt (i := 0) rfl, (hstB.nth 2 rfl).celAt (i := 1) rfl, (hstB.nth 2 rfl).celAt (i := 2) rfl, (hstB.nth 2 rfl).celAt (i := 3) rfl⟩); have x6c := (hstB.nth 3 rfl).celAt (i := 6) rfl; have xf6 := (hstB.nth 3 rfl).celFree 6; have hstC := hstB.get4.setCel 6 (.slice (some ⟨g', 0, none⟩) (W.length + 1) c'); obtain ⟨q0d, q1d, q2d, q3d⟩ := (show (wB.setCell ⟨gm, 6, none⟩ (.slice (some ⟨g', 0, none⟩) (W.length + 1) c')).cell? ⟨w.heap.size, 0, none⟩ = some (Dm.wV a) ∧ (wB.setCell ⟨gm, 6, none⟩ (.slice (some ⟨g', 0, none⟩) (W.length + 1) c')).cell? ⟨w.heap.size, 1, none⟩ = some (Dm.wV b) ∧ (wB.setCell ⟨gm, 6, none⟩ (.slice (some ⟨g', 0, none⟩) (W.length + 1) c')).cell? ⟨w.heap.size, 2, none⟩ = some (Dm.wV c) ∧ (wB.setCell ⟨gm, 6, none⟩ (.slice (some ⟨g', 0, none⟩) (W.length + 1) c')).cell? ⟨w.heap.size, 3, none⟩ = some (Dm.wV d) from ⟨(hstC.nth 3 rfl).celAt (i := 0) rfl, (hstC.nth 3 rfl).celAt (i := 1) rfl, (hstC.nth 3 rfl).celAt (i := 2) rfl, (hstC.nth 3 rfl).celAt (i := 3) rfl⟩); have HSTC := Lib.hid hstC; clear hstB hstC)
    refine hK.out _ _ ?_ (fun hHeld => ?_)
    · (try dsimp only); (first | exact ⟨q0b, q1b, q2b, q3b⟩ | exact ⟨bkeep ((Below.refl _ _).alloc (Nat.le_refl _) _) q0b, bkeep ((Below.refl _ _).alloc (Nat.le_refl _) _) q1b, bkeep ((Below.refl _ _).alloc (Nat.le_refl _) _) q2b, bkeep ((Below.refl _ _).alloc (Nat.le_refl _) _) q3b⟩ | exact ⟨q0c, q1c, q2c, q3c⟩ | exact ⟨q0d, q1d, q2d, q3d⟩)
    clear hK K
    try simp only [List.getElem_toArray, List.getElem_cons_zero, List.getElem_cons_succ, Act.put, List.setIfInBounds_toArray, List.set_cons_zero, List.set_cons_succ]
    refine wpAnyH_take (i := 8) (v := ?_) rfl (by kernel_rfl) (by kernel_rfl) (by kernel_rfl) (fun _ _ _ h => h) (Or.inl ⟨by rfl, ?_⟩) (by assumption) ?_
    rotate_left; focus (intro w hSw; (try dsimp only at hSw); go_simp; try (with_reducible rfl); done)
    try simp only [List.getElem_toArray, List.getElem_cons_zero, List.getElem_cons_succ, Act.put, List.setIfInBounds_toArray, List.set_cons_zero, List.set_cons_succ]
    refine wpAnyH_take (i := 9) (v := ?_) rfl (by kernel_rfl) (by kernel_rfl) (by kernel_rfl) (fun _ _ _ h => h) (Or.inl ⟨by rfl, ?_⟩) (by assumption) ?_
    rotate_left; focus (intro w hSw; (try dsimp only at hSw); go_simp; try (with_reducible rfl); done)
    try simp only [List.getElem_toArray, List.getElem_cons_zero, List.getElem_cons_succ, Act.put, List.setIfInBounds_toArray, List.set_cons_zero, List.set_cons_succ]
    refine wpAnyH_ready (rs := [10]) (by kernel_rfl) (by simp) ?_
    refine AllReadyH.cons rfl (fun K hK => ?_) AllReadyH.nil
    go_simp
    refine hK.out _ _ ?_ (fun hHeld => ?_)
    · (try dsimp only); (first | exact ⟨q0b, q1b, q2b, q3b⟩ | exact ⟨bkeep ((Below.refl _ _).alloc (Nat.le_refl _) _) q0b, bkeep ((Below.refl _ _).alloc (Nat.le_refl _) _) q1b, bkeep ((Below.refl _ _).alloc (Nat.le_refl _) _) q2b, bkeep ((Below.refl _ _).alloc (Nat.le_refl _) _) q3b⟩ | exact ⟨q0c, q1c, q2c, q3c⟩ | exact ⟨q0d, q1d, q2d, q3d⟩)
    clear hK K
    try simp only [List.getElem_toArray, List.getElem_cons_zero, List.getElem_cons_succ, Act.put, List.setIfInBounds_toArray, List.set_cons_zero, List.set_cons_succ]
    refine wpAnyH_done (by kernel_rfl) ?_ _
    have HSTE := Lib.hid (show St w0 _ (aCel gm 93 #[.slice ac la.length cc, .slice ar ru.length cr, vi, vo, .slice al la.length cl, ve, .slice (some ⟨g', 0, none⟩) (W.length + 1) c', .map (some gk), vR, vT] :: aOwn 177 4 (.slice (some ⟨g', 0, none⟩) (W.length + 1) c') (W.map Dm.setV ++ [Dm.setV [a, b, c, d]]) :: aMap 177 3 gk (nD + 1) (D.put kl (.lit (.int .i64 (W.length : Int)))) :: aCel w.heap.size 177 (Dm.setA [a, b, c, d]) :: aOwn 3 1 vT (tags.map (Value.int .i64)) :: μ) from HSTC.out)
    clear HSTC q0 q1 q2 q3 x6 x7 q0b q1b q2b q3b x6b x7b q0c q1c q2c q3c x6c xf6 q0d q1d q2d q3d HSTA HST
    generalize wB.setCell ⟨gm, 6, none⟩ (.slice (some ⟨g', 0, none⟩) (W.length + 1) c') = wC at *
    have x0 := (HSTE.out.nth 0 rfl).celAt (i := 0) rfl
    go_wp2_with (fail)
    go_loopg [7, 46] la.length (fun gz v7 v46 wr => ∃ (i : Nat), i ≤ la.length ∧ gz = la.length - i ∧ v46 = .int .i64 i ∧ v7 = .int .i64 (Dm.tagK la ru [a, b, c, d] i) ∧ St w0 wr (aCel gm 93 #[.slice ac la.length cc, .slice ar ru.length cr, vi, vo, .slice al la.length cl, ve, .slice (some ⟨g', 0, none⟩) (W.length + 1) c', .map (some gk), vR, vT] :: aOwn 177 4 (.slice (some ⟨g', 0, none⟩) (W.length + 1) c') (W.map Dm.setV ++ [Dm.setV [a, b, c, d]]) :: aMap 177 3 gk (nD + 1) (D.put kl (.lit (.int .i64 (W.length : Int)))) :: aCel w.heap.size 177 (Dm.setA [a, b, c, d]) :: aOwn 3 1 vT (tags.map (Value.int .i64)) :: μ))
    case atStart => exact ⟨0, by omega, by omega, rfl, rfl, HSTE.out⟩
    case round =>
      clear HSTE x0
      obtain ⟨i, hi, hgk, rfl, rfl, hst⟩ := hrel
      have HGK := Lib.hid hgk
      clear hgk
      have x0 := (hst.nth 0 rfl).celAt (i := 0) rfl
      by_cases hlt : i < la.length
      · have hir : (i : Int) < (ru.length : Int) := by have := HRU.out; omega
        obtain ⟨rfl, -, -⟩ := L3.out (by omega)
        obtain ⟨rfl, -, -⟩ := R3.out (by omega)
        have c0 := bkeep hst.bel (L4.out i hlt)
        have d0 := bkeep hst.bel (R4.out i (by omega)).1
        have x1 := (hst.nth 0 rfl).celAt (i := 1) rfl
        have x4 := (hst.nth 0 rfl).celAt (i := 4) rfl
        have q0 := (hst.nth 3 rfl).celAt (i := 0) rfl
        have q1 := (hst.nth 3 rfl).celAt (i := 1) rfl
        have q2 := (hst.nth 3 rfl).celAt (i := 2) rfl
        have q3 := (hst.nth 3 rfl).celAt (i := 3) rfl
        have HT := Lib.hid (show Dm.tagK la ru [a, b, c, d] (i + 1) = if (Dm.mem [a, b, c, d] i && la.getD i false && (decide (Dm.tagK la ru [a, b, c, d] i < 0) || decide (ru.getD i 0 < Dm.tagK la ru [a, b, c, d] i))) = true then ru.getD i 0 else Dm.tagK la ru [a, b, c, d] i from rfl)
        have C0 := Lib.hid (L4.out i hlt); have D0 := Lib.hid (R4.out i (by omega)).1
        obtain ⟨Z, hZ⟩ : ∃ Z, Dm.tagK la ru [a, b, c, d] (i + 1) = Z := ⟨_, rfl⟩
        rw [hZ] at HT
        have HZ := Lib.hid hZ
        clear hZ
        have HH := Lib.hid (fun W' => HHS.out W' i (by omega))
        have HST := Lib.hid hst
        clear hst
        generalize Dm.tagK la ru [a, b, c, d] i = X at *
        generalize ru.getD i 0 = Y at *
        generalize Dm.mem [a, b, c, d] i = B at *
        generalize la.getD i false = C at *
        go_wp2_with (fail)
        go_at_call 94
        refine (HH.out _).mono ?_
        clear x1 x4 c0 d0
        rintro e w5 ⟨rfl, hb5⟩
        have HST := Lib.hid (HST.out.call hb5)
        have x1 := (HST.out.nth 0 rfl).celAt (i := 1) rfl
        have x4 := (HST.out.nth 0 rfl).celAt (i := 4) rfl
        have c0 := bkeep HST.out.bel C0.out
        have d0 := bkeep HST.out.bel D0.out
        clear hb5
        cases B
        · have HU := Lib.hid (show Z = X by rw [HT.out]; rfl)
          go_wp2
          go_roundg (la.length - (i + 1))
          case measure => have := HGK.out; omega
          case rel => exact ⟨i + 1, by omega, rfl, by go_num, by rw [HZ.out, HU.out], HST.out⟩
        · cases C
          · have HU := Lib.hid (show Z = X by rw [HT.out]; rfl)
            go_wp2
            go_roundg (la.length - (i + 1))
            case measure => have := HGK.out; omega
            case rel => exact ⟨i + 1, by omega, rfl, by go_num, by rw [HZ.out, HU.out], HST.out⟩
          · by_cases hX : X < 0
            · have HU := Lib.hid (show Z = Y by rw [HT.out]; simp [hX])
              go_wp2
              go_roundg (la.length - (i + 1))
              case measure => have := HGK.out; omega
              case rel => exact ⟨i + 1, by omega, rfl, by go_num, by rw [HZ.out, HU.out], HST.out⟩
            · by_cases hY : Y < X
              · have HU := Lib.hid (show Z = Y by rw [HT.out]; simp [hX, hY])
                go_wp2
                go_roundg (la.length - (i + 1))
                case measure => have := HGK.out; omega
                case rel => exact ⟨i + 1, by omega, rfl, by go_num, by rw [HZ.out, HU.out], HST.out⟩
              · have HU := Lib.hid (show Z = X by rw [HT.out]; simp [hX, hY])
                go_wp2
                go_roundg (la.length - (i + 1))
                case measure => have := HGK.out; omega
                case rel => exact ⟨i + 1, by omega, rfl, by go_num, by rw [HZ.out, HU.out], HST.out⟩
      · obtain rfl : i = la.length := by omega
        have x9 := (hst.nth 0 rfl).celAt (i := 9) rfl
        have x6 := (hst.nth 0 rfl).celAt (i := 6) rfl
        have HST := Lib.hid hst.get5
        clear hst x0
        obtain ⟨X, hXE⟩ : ∃ X, Dm.tagK la ru [a, b, c, d] la.length = X := ⟨_, rfl⟩
        rw [hXE]
        have HXE := Lib.hid hXE
        clear hXE
        go_wp2_with (at_builtin; refine St.app1n intE rfl (.tmp 92) (.tmp 94) rfl rfl HST.out (.int .i64 X) rfl wr.heap.size 1 rfl rfl rfl (by intro q hq; simp [Value.cells] at hq; subst hq; rfl) (by rw [List.length_map]; unfold maxLen; omega) (by rw [List.length_map]; omega) ?_; intro g2 n2 c2 wB hstB; clear x9 x6; have x9 := (hstB.nth 1 rfl).celAt (i := 9) rfl; have xf9 := (hstB.nth 1 rfl).celFree 9; have x6 := (hstB.nth 1 rfl).celAt (i := 6) rfl; have HSTB := Lib.hid (hstB.get2.setCel 9 (.slice (some ⟨g2, 0, none⟩) n2 c2)); clear hstB HST)
        go_ret
        have e1 : (W ++ [[a, b, c, d]]).length = W.length + 1 := by simp
        have e2 : (W ++ [[a, b, c, d]]).map Dm.setV = W.map Dm.setV ++ [Dm.setV [a, b, c, d]] := by simp
        have e3 : (tags ++ [X]).map (Value.int .i64) = tags.map (Value.int .i64) ++ [.int .i64 X] := by simp
        refine ⟨kl, g', c', .slice (some ⟨g2, 0, none⟩) n2 c2, HKL.out, by go_num, ?_⟩
        unfold Dm.base
        rw [e1, e2, HXE.out, e3]
        exact HSTB.out.pick [0, 2, 3, 1] 5 rfl rfl
end Go.Proofs.Ytlgabpcddldelaa
