/-
  Has of package class and of the reference: is a byte in a class?
-/
import Derived.Test.YtlgabpcddldelaaDoorSepAt
import Derived.Laws.Bits64b
namespace Go.Proofs.YtlgabpcddldelaaDoor
set_option linter.unusedVariables false
open Go.ChangeShapes Go.WideShapes Go.ChangeAt Go.RowKit

namespace Pl
/-- Is the byte in the class (four words)? -/
def has (c : List Int) (b : Nat) : Bool := decide ((c.getD (b / 64) 0).toNat / 2 ^ (b % 64) % 2 = 1)
theorem and_one (y k : Nat) (hy : (y : Int) < 18446744073709551616) : (bits .and .u64 ((y : Int) / 2 ^ k) 1 == 1) = decide ((y : Int).toNat / 2 ^ k % 2 = 1) := by
  have h1 : ((y : Int) / 2 ^ k) = ((y / 2 ^ k : Nat) : Int) := by simp
  have hlt : y / 2 ^ k < 18446744073709551616 := Nat.lt_of_le_of_lt (Nat.div_le_self _ _) (by omega)
  rw [h1, show (1 : Int) = ((1 : Nat) : Int) from rfl, bits_and_u64_nat _ _ hlt (by omega), Int.toNat_natCast, Nat.and_one_is_mod, Bool.eq_iff_iff, beq_iff_eq, decide_eq_true_iff]
  omega
theorem rem_two (y k : Nat) : ((y : Int) / 2 ^ k % 2 == 1) = decide ((y : Int).toNat / 2 ^ k % 2 = 1) := by
  have h1 : ((y : Int) / 2 ^ k) = ((y / 2 ^ k : Nat) : Int) := by simp
  rw [h1, Int.toNat_natCast, Bool.eq_iff_iff, beq_iff_eq, decide_eq_true_iff]
  omega
end Pl

set_option maxRecDepth 100000 in
theorem has_any (cs : Array Value) (c : List Int) (b : Nat) (hb : b < 256) (w : World) (hcs : cs.toList = c.map (Value.int .u64)) (hl : c.length = 4) (hw : ∀ x ∈ c, 0 ≤ x ∧ x < 18446744073709551616) :
    Calls Tryd.prog 13 #[.agg cs, .int .u8 b] w fun e w' => e = .returned (.bool (Pl.has c b)) ∧ Below w.heap.size w w' := by
  have hi4 : b / 64 < 4 := by omega
  have hst := (St.init w).alloc cs 24
  have hget : cs[b / 64]? = some (.int .u64 (c.getD (b / 64) 0)) := by
    rw [← Array.getElem?_toList, hcs, List.getElem?_map, List.getElem?_eq_getElem (by omega)]
    simp [List.getD, List.getElem?_eq_getElem (by omega : b / 64 < c.length)]
  have hx : 0 ≤ c.getD (b / 64) 0 ∧ c.getD (b / 64) 0 < 18446744073709551616 := by
    have h2 : c.getD (b / 64) 0 = c[b / 64]'(by omega) := by simp [List.getD, List.getElem?_eq_getElem (by omega : b / 64 < c.length)]
    rw [h2]; exact hw _ (List.getElem_mem _)
  obtain ⟨x, hxx⟩ : ∃ x, c.getD (b / 64) 0 = x := ⟨_, rfl⟩
  have hh : Pl.has c b = decide (x.toNat / 2 ^ (b % 64) % 2 = 1) := by unfold Pl.has; rw [hxx]
  rw [hh]
  rw [hxx] at hget hx
  obtain ⟨y, rfl⟩ := Int.eq_ofNat_of_zero_le hx.1
  have hbi : (b : Int) < 256 := by omega
  have HY := Lib.hid hx.2
  clear hcs hl hw hxx hh hx
  go_enter Tryd.func13, Tryd.ntmps13
  go_wp2
  go_ret
  exact ⟨congrArg (fun x => Ending.returned (.bool x)) (Pl.and_one y (b % 64) HY.out), hst.bel⟩

set_option maxRecDepth 100000 in
theorem rHas_any (cs : Array Value) (c : List Int) (b : Nat) (hb : b < 256) (w : World) (hcs : cs.toList = c.map (Value.int .u64)) (hl : c.length = 4) (hw : ∀ x ∈ c, 0 ≤ x ∧ x < 18446744073709551616) :
    Calls Tryd.prog 9 #[.agg cs, .int .i64 b] w fun e w' => e = .returned (.bool (Pl.has c b)) ∧ Below w.heap.size w w' := by
  have hi4 : b / 64 < 4 := by omega
  have hst := (St.init w).alloc cs 24
  have hget : cs[b / 64]? = some (.int .u64 (c.getD (b / 64) 0)) := by
    rw [← Array.getElem?_toList, hcs, List.getElem?_map, List.getElem?_eq_getElem (by omega)]
    simp [List.getD, List.getElem?_eq_getElem (by omega : b / 64 < c.length)]
  have hx : 0 ≤ c.getD (b / 64) 0 ∧ c.getD (b / 64) 0 < 18446744073709551616 := by
    have h2 : c.getD (b / 64) 0 = c[b / 64]'(by omega) := by simp [List.getD, List.getElem?_eq_getElem (by omega : b / 64 < c.length)]
    rw [h2]; exact hw _ (List.getElem_mem _)
  obtain ⟨x, hxx⟩ : ∃ x, c.getD (b / 64) 0 = x := ⟨_, rfl⟩
  have hh : Pl.has c b = decide (x.toNat / 2 ^ (b % 64) % 2 = 1) := by unfold Pl.has; rw [hxx]
  rw [hh]
  rw [hxx] at hget hx
  obtain ⟨y, rfl⟩ := Int.eq_ofNat_of_zero_le hx.1
  have hbi : (b : Int) < 256 := by omega
  have HY := Lib.hid hx.2
  clear hcs hl hw hxx hh hx
  go_enter Tryd.func9, Tryd.ntmps9
  go_wp2
  go_ret
  exact ⟨congrArg (fun x => Ending.returned (.bool x)) (Pl.rem_two y (b % 64)), hst.bel⟩
end Go.Proofs.YtlgabpcddldelaaDoor
