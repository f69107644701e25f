/-
  The sets of package dfa: has, put.
-/
import Derived.Test.YtlgabpcddldelaaDm
import Derived.Test.YtlgabpcddldelaaSepRow
import Derived.Deep.RegionHeld
namespace Go.Proofs.Ytlgabpcddldelaa
set_option linter.unusedVariables false
set_option linter.unusedSimpArgs false
open Go.ChangeShapes Go.WideShapes Go.ChangeAt Go.RowKit

namespace Dm
theorem and63 (n : Nat) : bits .and .i64 (n : Int) 63 = ((n % 64 : Nat) : Int) := by
  have h63 : (BitVec.ofInt 64 63).toNat = 2 ^ 6 - 1 := by decide
  have key : (BitVec.ofInt 64 (n : Int) &&& BitVec.ofInt 64 63).toNat = ((n : Int) % ((2 ^ 64 : Nat) : Int)).toNat % 2 ^ 6 := by
    rw [BitVec.toNat_and, BitVec.toNat_ofInt, h63, Nat.and_two_pow_sub_one_eq_mod]
  show IntKind.i64.wrap ((BitVec.ofInt 64 (n : Int) &&& BitVec.ofInt 64 63).toNat : Nat) = _
  rw [key, IntKind.wrap_i64]
  omega
def wV (n : Nat) : Value := .int .u64 (n : Int)
def setA (ws : List Nat) : Array Value := (ws.map wV).toArray
def setV (ws : List Nat) : Value := .agg (setA ws)
theorem setV_inj (a b : List Nat) (h : setV a = setV b) : a = b := by
  simp only [setV, setA, Value.agg.injEq] at h
  have h2 := congrArg Array.toList h
  have h3 := congrArg (List.map (fun v : Value => match v with | .int _ n => n.toNat | _ => 0)) h2
  simpa [Function.comp_def, wV] using h3
theorem setA_get {ws : List Nat} {j : Nat} (h : j < ws.length) : (setA ws)[j]? = some (wV (ws.getD j 0)) := by
  unfold setA
  rw [List.getElem?_toArray, List.getElem?_map, List.getElem?_eq_getElem h]
  simp [List.getD, List.getElem?_eq_getElem h]
theorem setA_set {ws : List Nat} {j n : Nat} : (setA ws).setIfInBounds j (wV n) = setA (ws.set j n) := by
  apply Array.toList_inj.1
  simp [setA, List.map_set]
end Dm

set_option maxRecDepth 100000 in
theorem setHas_any (ws : List Nat) (i : Nat) (hi : i < 256) (h4 : Dm.Ok4 ws) (w : World) :
    Calls Try.prog 94 #[Dm.setV ws, .int .i64 i] w fun e w' => e = .returned (.bool (Dm.mem ws i)) ∧ Below w.heap.size w w' := by
  have hi4 : i / 64 < 4 := by omega
  have hst := (St.init w).alloc (Dm.setA ws) 177
  have hget := Dm.setA_get (ws := ws) (j := i / 64) (by rw [h4.len]; exact hi4)
  unfold Dm.wV at hget
  have hlt := h4.lt (i / 64)
  have hm : Dm.mem ws i = decide ((ws.getD (i / 64) 0 : Int).toNat / 2 ^ (i % 64) % 2 = 1) := by
    unfold Dm.mem; rw [Nat.testBit_eq_decide_div_mod_eq, Int.toNat_natCast]
  rw [hm]
  generalize ws.getD (i / 64) 0 = y at *
  have hii : (i : Int) < 256 := by omega
  have HY := Lib.hid (show (y : Int) < 18446744073709551616 from Int.ofNat_lt.2 (show y < 18446744073709551616 from hlt))
  have c0 := hst.celAt hget
  have HST := Lib.hid hst
  have h63 := Dm.and63 i
  have hq : ((i % 64 : Nat) : Int) < 64 := by omega
  generalize i % 64 = q at *
  clear hlt hm h4 hst hget
  unfold Dm.setV
  go_enter Try.func94, Try.ntmps94
  go_wp2
  go_ret
  exact ⟨congrArg (fun x => Ending.returned (.bool x)) (Pl.and_one y q HY.out), HST.out.bel⟩

set_option maxRecDepth 100000 in
set_option maxHeartbeats 800000 in
theorem setPut_any (ws : List Nat) (i : Nat) (hi : i < 256) (h4 : Dm.Ok4 ws) (w0 w : World) (g : Nat) (μ : List Asrt) (h : St w0 w (aCel g 177 (Dm.setA ws) :: μ)) :
    Calls Try.prog 96 #[.pointer (some ⟨g, 0, none⟩), .int .i64 i] w fun e w' => e = .returned (.tuple #[]) ∧ St w0 w' (aCel g 177 (Dm.setA (Dm.put ws i)) :: μ) := by
  have hi4 : i / 64 < 4 := by omega
  have hst := h.drew
  have hget := Dm.setA_get (ws := ws) (j := i / 64) (by rw [h4.len]; exact hi4)
  unfold Dm.wV at hget
  have hlt := h4.lt (i / 64)
  have c0 := hst.celAt hget
  have f0 := hst.celFree (i / 64)
  have hst2 := hst.setCel (i / 64) (Dm.wV (ws.getD (i / 64) 0 ||| 2 ^ (i % 64)))
  rw [Dm.setA_set] at hst2
  have HST := Lib.hid (show St w0 _ (aCel g 177 (Dm.setA (Dm.put ws i)) :: μ) from hst2)
  have hpow : 2 ^ (i % 64) < 18446744073709551616 := Nat.pow_lt_pow_right (a := 2) (m := i % 64) (n := 64) (by decide) (by omega)
  have hor : bits .or .u64 ((ws.getD (i / 64) 0 : Nat) : Int) ((2 ^ (i % 64) : Nat) : Int) = ((ws.getD (i / 64) 0 ||| 2 ^ (i % 64) : Nat) : Int) := bits_or_u64_nat _ _ hlt hpow
  have hsh : IntKind.u64.wrap ((2 : Int) ^ (i % 64)) = ((2 ^ (i % 64) : Nat) : Int) := by
    have e : ((2 : Int) ^ (i % 64)) = ((2 ^ (i % 64) : Nat) : Int) := by simp
    rw [e, IntKind.wrap_u64]
    exact Int.emod_eq_of_lt (Int.natCast_nonneg _) (Int.ofNat_lt.2 hpow)
  have h63 := Dm.and63 i
  have hq : ((i % 64 : Nat) : Int) < 64 := by omega
  have hii : (i : Int) < 256 := by omega
  generalize ((2 ^ (i % 64) : Nat) : Int) = z at *
  generalize (ws.getD (i / 64) 0 ||| 2 ^ (i % 64)) = u at *
  generalize ws.getD (i / 64) 0 = y at *
  generalize i % 64 = q at *
  have hd0 : (0 : Int) ≤ (i : Int) / 64 := by omega
  have hd1 : (i : Int) / 64 < 4 := by omega
  have hdn : ((i : Int) / 64).toNat = i / 64 := by omega
  clear hlt h4 hst hget hst2 h hpow
  unfold Dm.wV at HST
  go_enter Try.func96, Try.ntmps96
  go_wp2_with (fail)
  refine wp_region_held_drew (S := (fun w' => True)) (by kernel_rfl) ?_ (fun hHeld => ?_)
  · (try dsimp only); (first | done | exact trivial)

  refine wpAnyH_take (i := 0) (v := ?_) rfl (by kernel_rfl) (by kernel_rfl) (by kernel_rfl) (fun _ _ _ h => h) (Or.inl ⟨by rfl, ?_⟩) (by assumption) ?_
  rotate_left; focus (intro w hSw; (try dsimp only at hSw); go_simp; try (with_reducible rfl); done)
  try simp only [List.getElem_toArray, List.getElem_cons_zero, List.getElem_cons_succ, Act.put, List.setIfInBounds_toArray, List.set_cons_zero, List.set_cons_succ]
  refine wpAnyH_take (i := 1) (v := ?_) rfl (by kernel_rfl) (by kernel_rfl) (by kernel_rfl) (fun _ _ _ h => h) (Or.inl ⟨by rfl, ?_⟩) (by assumption) ?_
  rotate_left; focus (intro w hSw; (try dsimp only at hSw); go_simp; try (with_reducible rfl); done)
  try simp only [List.getElem_toArray, List.getElem_cons_zero, List.getElem_cons_succ, Act.put, List.setIfInBounds_toArray, List.set_cons_zero, List.set_cons_succ]
  refine wpAnyH_take (i := 2) (v := ?_) rfl (by kernel_rfl) (by kernel_rfl) (by kernel_rfl) (fun _ _ _ h => h) (Or.inl ⟨by rfl, ?_⟩) (by assumption) ?_
  rotate_left; focus (intro w hSw; (try dsimp only at hSw); go_simp; try (with_reducible rfl); done)
  try simp only [List.getElem_toArray, List.getElem_cons_zero, List.getElem_cons_succ, Act.put, List.setIfInBounds_toArray, List.set_cons_zero, List.set_cons_succ]
  refine wpAnyH_take (i := 3) (v := ?_) rfl (by kernel_rfl) (by kernel_rfl) (by kernel_rfl) (fun _ _ _ h => h) (Or.inl ⟨by rfl, ?_⟩) (by assumption) ?_
  rotate_left; focus (intro w hSw; (try dsimp only at hSw); go_simp; try (with_reducible rfl); done)
  try simp only [List.getElem_toArray, List.getElem_cons_zero, List.getElem_cons_succ, Act.put, List.setIfInBounds_toArray, List.set_cons_zero, List.set_cons_succ]
  refine wpAnyH_take (i := 4) (v := ?_) rfl (by kernel_rfl) (by kernel_rfl) (by kernel_rfl) (fun _ _ _ h => h) (Or.inl ⟨by rfl, ?_⟩) (by assumption) ?_
  rotate_left; focus (intro w hSw; (try dsimp only at hSw); go_simp; try (with_reducible rfl); done)
  try simp only [List.getElem_toArray, List.getElem_cons_zero, List.getElem_cons_succ, Act.put, List.setIfInBounds_toArray, List.set_cons_zero, List.set_cons_succ]
  refine wpAnyH_take (i := 6) (v := ?_) rfl (by kernel_rfl) (by kernel_rfl) (by kernel_rfl) (fun _ _ _ h => h) (Or.inl ⟨by rfl, ?_⟩) (by assumption) ?_
  rotate_left; focus (intro w hSw; (try dsimp only at hSw); go_simp; try (with_reducible rfl); done)
  try simp only [List.getElem_toArray, List.getElem_cons_zero, List.getElem_cons_succ, Act.put, List.setIfInBounds_toArray, List.set_cons_zero, List.set_cons_succ]
  refine wpAnyH_take (i := 7) (v := ?_) rfl (by kernel_rfl) (by kernel_rfl) (by kernel_rfl) (fun _ _ _ h => h) (Or.inl ⟨by rfl, ?_⟩) (by assumption) ?_
  rotate_left; focus (intro w hSw; (try dsimp only at hSw); go_simp; try (with_reducible rfl); done)
  try simp only [List.getElem_toArray, List.getElem_cons_zero, List.getElem_cons_succ, Act.put, List.setIfInBounds_toArray, List.set_cons_zero, List.set_cons_succ]
  refine wpAnyH_take (i := 8) (v := ?_) rfl (by kernel_rfl) (by kernel_rfl) (by kernel_rfl) (fun _ _ _ h => h) (Or.inl ⟨by rfl, ?_⟩) (by assumption) ?_
  rotate_left; focus (intro w hSw; (try dsimp only at hSw); go_simp; try (with_reducible rfl); done)
  try simp only [List.getElem_toArray, List.getElem_cons_zero, List.getElem_cons_succ, Act.put, List.setIfInBounds_toArray, List.set_cons_zero, List.set_cons_succ]
  refine wpAnyH_take (i := 10) (v := ?_) rfl (by kernel_rfl) (by kernel_rfl) (by kernel_rfl) (fun _ _ _ h => h) (Or.inl ⟨by rfl, ?_⟩) (by assumption) ?_
  rotate_left; focus (intro w hSw; (try dsimp only at hSw); go_simp; try (with_reducible rfl); done)
  try simp only [List.getElem_toArray, List.getElem_cons_zero, List.getElem_cons_succ, Act.put, List.setIfInBounds_toArray, List.set_cons_zero, List.set_cons_succ]
  refine wpAnyH_ready (rs := [5]) (by kernel_rfl) (by simp) ?_
  refine AllReadyH.cons rfl (fun K hK => ?_) AllReadyH.nil
  go_simp
  refine hK.out _ _ ?_ (fun hHeld => ?_)
  · (try dsimp only); (first | done | exact trivial)
  clear hK K
  try simp only [List.getElem_toArray, List.getElem_cons_zero, List.getElem_cons_succ, Act.put, List.setIfInBounds_toArray, List.set_cons_zero, List.set_cons_succ]
  refine wpAnyH_take (i := 9) (v := ?_) rfl (by kernel_rfl) (by kernel_rfl) (by kernel_rfl) (fun _ _ _ h => h) (Or.inl ⟨by rfl, ?_⟩) (by assumption) ?_
  rotate_left; focus (intro w hSw; (try dsimp only at hSw); go_simp; try (with_reducible rfl); done)
  try simp only [List.getElem_toArray, List.getElem_cons_zero, List.getElem_cons_succ, Act.put, List.setIfInBounds_toArray, List.set_cons_zero, List.set_cons_succ]
  refine wpAnyH_take (i := 11) (v := ?_) rfl (by kernel_rfl) (by kernel_rfl) (by kernel_rfl) (fun _ _ _ h => h) (Or.inl ⟨by rfl, ?_⟩) (by assumption) ?_
  rotate_left; focus (intro w hSw; (try dsimp only at hSw); go_simp; try (with_reducible rfl); done)
  try simp only [List.getElem_toArray, List.getElem_cons_zero, List.getElem_cons_succ, Act.put, List.setIfInBounds_toArray, List.set_cons_zero, List.set_cons_succ]
  refine wpAnyH_ready (rs := [12]) (by kernel_rfl) (by simp) ?_
  refine AllReadyH.cons rfl (fun K hK => ?_) AllReadyH.nil
  go_simp
  refine hK.out _ _ ?_ (fun hHeld => ?_)
  · (try dsimp only); (first | done | exact trivial)
  clear hK K
  try simp only [List.getElem_toArray, List.getElem_cons_zero, List.getElem_cons_succ, Act.put, List.setIfInBounds_toArray, List.set_cons_zero, List.set_cons_succ]
  refine wpAnyH_done (by kernel_rfl) ?_ _
  go_wp2
  go_end0
  exact ⟨rfl, HST.out⟩
end Go.Proofs.Ytlgabpcddldelaa
