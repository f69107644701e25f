/-
  Classes as four words. (Plain, but for how they lie in memory; nothing of the program is claimed.)
-/
import Derived.Test.YtlgabpcddldelaaDoorDm
import Derived.Test.YtlgabpcddldelaaDoorSepRow
import Derived.Test.YtlgabpcddldelaaDoorSepPick
import Derived.Deep.RegionHeld
import Derived.Deep.LoopGhost
namespace Go.Proofs.YtlgabpcddldelaaDoor
set_option linter.unusedVariables false
set_option linter.unusedSimpArgs false
open Go.ChangeShapes Go.WideShapes Go.ChangeAt Go.RowKit

namespace Cs
def wV (n : Nat) : Value := .int .u64 (n : Int)
def clA (ws : List Nat) : Array Value := (ws.map wV).toArray
def clV (ws : List Nat) : Value := .agg (clA ws)
/-- The class of the bytes for which p holds. -/
def of (p : Nat → Bool) : List Nat := Dm.ofL ((List.range 256).filter p)
theorem mem_of {p : Nat → Bool} {x : Nat} (hx : x < 256) : Dm.mem (of p) x = p x := by
  unfold of
  rw [Dm.mem_ofL (fun y hy => List.mem_range.1 (List.mem_filter.1 hy).1) hx, Bool.eq_iff_iff, List.contains_iff_mem, List.mem_filter]
  exact ⟨fun h => h.2, fun h => ⟨List.mem_range.2 hx, h⟩⟩
theorem ok_of (p : Nat → Bool) : Dm.Ok4 (of p) := Dm.ok_ofL fun y hy => List.mem_range.1 (List.mem_filter.1 hy).1
theorem of_mem {ws : List Nat} (h : Dm.Ok4 ws) : of (Dm.mem ws) = ws := Dm.ext (ok_of _) h fun x hx => mem_of hx
theorem eq_of {ws : List Nat} (h : Dm.Ok4 ws) {p : Nat → Bool} (hp : ∀ x, x < 256 → Dm.mem ws x = p x) : ws = of p := Dm.ext h (ok_of _) fun x hx => by rw [hp x hx, mem_of hx]
theorem of_congr {p q : Nat → Bool} (h : ∀ x, x < 256 → p x = q x) : of p = of q := eq_of (ok_of p) fun x hx => by rw [mem_of hx, h x hx]
theorem of_put {p q : Nat → Bool} {b : Nat} (hb : b < 256) (h : ∀ x, x < 256 → q x = (p x || decide (b = x))) : Dm.put (of p) b = of q := eq_of (Dm.ok_put (ok_of p) hb) fun x hx => by rw [Dm.mem_put (ok_of p) hb hx, mem_of hx, h x hx]
theorem of_false : of (fun _ => false) = Dm.zero := (eq_of Dm.ok_zero fun x _ => Dm.mem_zero x).symm
theorem clA_get {ws : List Nat} {j : Nat} (h : j < ws.length) : (clA ws)[j]? = some (wV (ws.getD j 0)) := by
  unfold clA
  rw [List.getElem?_toArray, List.getElem?_map, List.getElem?_eq_getElem h]
  simp [List.getD, List.getElem?_eq_getElem h]
theorem clA_set {ws : List Nat} {j n : Nat} : (clA ws).setIfInBounds j (wV n) = clA (ws.set j n) := by
  apply Array.toList_inj.1
  simp [clA, List.map_set]
theorem clA_size {ws : List Nat} (h : Dm.Ok4 ws) : (clA ws).size = 4 := by simp [clA, h.len]
theorem clA_one (ws : List Nat) : (clA ws).all (·.oneCell') = true := by
  rw [← Array.all_toList]
  simp only [clA, List.all_map]
  exact List.all_eq_true.2 (fun _ _ => rfl)
theorem clInfo : (Tryd.prog.info? 24).map (·.size) = some 4 := by kernel_rfl
theorem clV_inj {a b : List Nat} (h : clV a = clV b) : a = b := by
  simp only [clV, clA, Value.agg.injEq] at h
  have h2 := congrArg Array.toList h
  have h3 := congrArg (List.map (fun v : Value => match v with | .int _ n => n.toNat | _ => 0)) h2
  simpa [Function.comp_def, wV] using h3
theorem okFour {ws : List Nat} (h : Dm.Ok4 ws) : ∃ a b c d, ws = [a, b, c, d] := by
  have := h.len
  match ws, this with
  | [a, b, c, d], _ => exact ⟨a, b, c, d, rfl⟩
/-- What comes in. -/
theorem of_row {cs : List Value} {c : List Int} (h1 : cs = c.map (Value.int .u64)) (h2 : c.length = 4) (h3 : ∀ x ∈ c, (Lit.int .u64 x).wf = true) : ∃ ws, Dm.Ok4 ws ∧ cs = ws.map wV ∧ c = ws.map fun n : Nat => (n : Int) := by
  have hb : ∀ x ∈ c, 0 ≤ x ∧ x < 18446744073709551616 := fun x hx => by
    have := h3 x hx
    simp [Lit.wf, IntKind.min, IntKind.max, IntKind.signed, IntKind.bits] at this
    omega
  have e : c = (c.map Int.toNat).map fun n : Nat => (n : Int) := by
    rw [List.map_map]
    conv => lhs; rw [← List.map_id c]
    apply List.map_congr_left
    intro x hx
    have := hb x hx
    simp only [Function.comp, id]
    omega
  refine ⟨c.map Int.toNat, ⟨by simp [h2], fun j => ?_⟩, ?_, e⟩
  · by_cases hj : j < c.length
    · have : (c.map Int.toNat).getD j 0 = (c[j]).toNat := by simp [List.getD, List.getElem?_eq_getElem hj]
      rw [this]
      have h4 := hb _ (List.getElem_mem hj)
      have h5 : ((c[j].toNat : Nat) : Int) < ((2 ^ 64 : Nat) : Int) := by
        rw [Int.toNat_of_nonneg h4.1]; exact h4.2
      exact Int.ofNat_lt.1 h5
    · rw [List.getD_eq_getElem?_getD, List.getElem?_eq_none (by simpa using hj)]
      exact Nat.two_pow_pos 64
  · rw [h1]
    conv => lhs; rw [e]
    rw [List.map_map]; rfl
theorem has_mem {ws : List Nat} (b : Nat) : Pl.has (ws.map fun n : Nat => (n : Int)) b = Dm.mem ws b := by
  have e : (ws.map fun n : Nat => (n : Int)).getD (b / 64) 0 = ((ws.getD (b / 64) 0 : Nat) : Int) := by
    by_cases h : b / 64 < ws.length
    · simp [List.getD, List.getElem?_eq_getElem h]
    · simp [List.getD, List.getElem?_eq_none (Nat.le_of_not_lt h)]
  unfold Pl.has Dm.mem
  rw [e, Int.toNat_natCast, Nat.testBit_eq_decide_div_mod_eq]
theorem and63 (n : Nat) : bits .and .i64 (n : Int) 63 = ((n % 64 : Nat) : Int) := by
  have h63 : (BitVec.ofInt 64 63).toNat = 2 ^ 6 - 1 := by decide
  have key : (BitVec.ofInt 64 (n : Int) &&& BitVec.ofInt 64 63).toNat = ((n : Int) % ((2 ^ 64 : Nat) : Int)).toNat % 2 ^ 6 := by
    rw [BitVec.toNat_and, BitVec.toNat_ofInt, h63, Nat.and_two_pow_sub_one_eq_mod]
  show IntKind.i64.wrap ((BitVec.ofInt 64 (n : Int) &&& BitVec.ofInt 64 63).toNat : Nat) = _
  rw [key, IntKind.wrap_i64]
  omega
/-! Two classes, word by word. -/
def zip (f : Nat → Nat → Nat) (a b : List Nat) : List Nat := List.zipWith f a b
theorem zip_get {f : Nat → Nat → Nat} {a b : List Nat} (ha : a.length = 4) (hb : b.length = 4) {j : Nat} (hj : j < 4) : (zip f a b).getD j 0 = f (a.getD j 0) (b.getD j 0) := by
  unfold zip
  rw [List.getD_eq_getElem?_getD, List.getElem?_zipWith]
  simp [List.getD, List.getElem?_eq_getElem (by omega : j < a.length), List.getElem?_eq_getElem (by omega : j < b.length)]
theorem zip_len {f : Nat → Nat → Nat} {a b : List Nat} (ha : a.length = 4) (hb : b.length = 4) : (zip f a b).length = 4 := by simp [zip, ha, hb]
theorem zip_ok {f : Nat → Nat → Nat} {a b : List Nat} (ha : Dm.Ok4 a) (hb : Dm.Ok4 b) (hf : ∀ x y, x < 2 ^ 64 → y < 2 ^ 64 → f x y < 2 ^ 64) : Dm.Ok4 (zip f a b) := by
  refine ⟨zip_len ha.len hb.len, fun j => ?_⟩
  by_cases hj : j < 4
  · rw [zip_get ha.len hb.len hj]; exact hf _ _ (ha.lt j) (hb.lt j)
  · rw [List.getD_eq_getElem?_getD, List.getElem?_eq_none (by rw [zip_len ha.len hb.len]; omega)]
    exact Nat.two_pow_pos 64
theorem or_eq {a b : List Nat} (ha : Dm.Ok4 a) (hb : Dm.Ok4 b) : zip (· ||| ·) a b = of (fun x => Dm.mem a x || Dm.mem b x) := by
  refine eq_of (zip_ok ha hb fun x y hx hy => Nat.or_lt_two_pow hx hy) fun x hx => ?_
  unfold Dm.mem
  rw [zip_get ha.len hb.len (by omega), Nat.testBit_or]
theorem and_eq {a b : List Nat} (ha : Dm.Ok4 a) (hb : Dm.Ok4 b) : zip (· &&& ·) a b = of (fun x => Dm.mem a x && Dm.mem b x) := by
  refine eq_of (zip_ok ha hb fun x y hx hy => Nat.and_lt_two_pow _ hy) fun x hx => ?_
  unfold Dm.mem
  rw [zip_get ha.len hb.len (by omega), Nat.testBit_and]
def inv (a : List Nat) : List Nat := a.map fun x => 18446744073709551615 - x
theorem inv_get {a : List Nat} (ha : a.length = 4) {j : Nat} (hj : j < 4) : (inv a).getD j 0 = 18446744073709551615 - a.getD j 0 := by
  unfold inv
  simp [List.getD, List.getElem?_eq_getElem (by omega : j < a.length)]
theorem inv_eq {a : List Nat} (ha : Dm.Ok4 a) : inv a = of (fun x => !Dm.mem a x) := by
  refine eq_of ⟨by simp [inv, ha.len], fun j => ?_⟩ fun x hx => ?_
  · by_cases hj : j < 4
    · rw [inv_get ha.len hj]
      exact Nat.lt_of_le_of_lt (Nat.sub_le _ _) (by decide)
    · rw [List.getD_eq_getElem?_getD, List.getElem?_eq_none (by simp [inv, ha.len]; omega)]
      exact Nat.two_pow_pos 64
  · unfold Dm.mem
    rw [inv_get ha.len (by omega), show 18446744073709551615 = 2 ^ 64 - 1 by decide, show 2 ^ 64 - 1 - a.getD (x / 64) 0 = 2 ^ 64 - (a.getD (x / 64) 0 + 1) by omega, Nat.testBit_two_pow_sub_succ (ha.lt _)]
    simp; omega
/-- The words while the first i are turned. -/
def upto (a z : List Nat) (i : Nat) : List Nat := z.take i ++ a.drop i
theorem upto_zero (a z : List Nat) : upto a z 0 = a := by simp [upto]
theorem upto_all {a z : List Nat} (ha : a.length = 4) (hz : z.length = 4) : upto a z 4 = z := by simp [upto, ← ha]; rw [ha, ← hz, List.take_length]
theorem upto_len {a z : List Nat} (ha : a.length = 4) (hz : z.length = 4) {i : Nat} (hi : i ≤ 4) : (upto a z i).length = 4 := by simp [upto, ha, hz]; omega
theorem upto_get {a z : List Nat} (ha : a.length = 4) (hz : z.length = 4) {i : Nat} (hi : i < 4) : (upto a z i).getD i 0 = a.getD i 0 := by
  match a, ha, z, hz, i, hi with
  | [_, _, _, _], _, [_, _, _, _], _, 0, _ => rfl
  | [_, _, _, _], _, [_, _, _, _], _, 1, _ => rfl
  | [_, _, _, _], _, [_, _, _, _], _, 2, _ => rfl
  | [_, _, _, _], _, [_, _, _, _], _, 3, _ => rfl
theorem upto_set {a z : List Nat} (ha : a.length = 4) (hz : z.length = 4) {i : Nat} (hi : i < 4) : (upto a z i).set i (z.getD i 0) = upto a z (i + 1) := by
  match a, ha, z, hz, i, hi with
  | [_, _, _, _], _, [_, _, _, _], _, 0, _ => rfl
  | [_, _, _, _], _, [_, _, _, _], _, 1, _ => rfl
  | [_, _, _, _], _, [_, _, _, _], _, 2, _ => rfl
  | [_, _, _, _], _, [_, _, _, _], _, 3, _ => rfl
end Cs
end Go.Proofs.YtlgabpcddldelaaDoor
