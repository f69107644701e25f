/-
  bit of package ll, Col of the reference.
-/
import Derived.Test.YtldapomcjfkeeaaLlN
namespace Go.Proofs.Ytldapomcjfkeeaa
set_option linter.unusedVariables false
set_option linter.unusedSimpArgs false
open Go.ChangeShapes Go.WideShapes Go.ChangeAt Go.RowKit

set_option maxRecDepth 100000 in
theorem llBit_any (t n : Int) (vp : Value) (T col : Nat) (hT : t = (T : Int)) (ht : T ≤ 30) (hc : col ≤ T) (w : World) :
    Calls Try.prog 135 #[.agg #[.int .i64 t, .int .i64 n, vp], .int .i64 col] w fun e w' => e = .returned (.int .u64 ((2 ^ Ll.colbit T col : Nat) : Int)) ∧ Below w.heap.size w w' := by
  subst hT
  by_cases h : col = T
  · subst h
    have e : Ll.colbit col col = 63 := by simp [Ll.colbit]
    rw [e]
    have HP : Hid (((2 ^ 63 : Nat) : Int) = 9223372036854775808) := Lib.hid (by decide)
    have hb : ((col : Int) == (col : Int)) = true := by rw [beq_iff_eq]
    clear e
    generalize ((2 ^ 63 : Nat) : Int) = z at *
    go_enter Try.func135, Try.ntmps135
    go_wp2
    go_ret
    exact ⟨by rw [HP.out]; rfl, (Below.refl _ _).alloc (Nat.le_refl _) _⟩
  · have e : Ll.colbit T col = col := by simp [Ll.colbit, h]
    rw [e]
    have hpow : 2 ^ col < 18446744073709551616 := Nat.pow_lt_pow_right (a := 2) (m := col) (n := 64) (by decide) (by omega)
    have hsh : IntKind.u64.wrap ((2 : Int) ^ col) = ((2 ^ col : Nat) : Int) := by
      have e : ((2 : Int) ^ col) = ((2 ^ col : Nat) : Int) := by simp
      rw [e, IntKind.wrap_u64]
      exact Int.emod_eq_of_lt (Int.natCast_nonneg _) (Int.ofNat_lt.2 hpow)
    have HP := Lib.hid hsh
    have hb : ((col : Int) == (T : Int)) = false := by rw [beq_eq_false_iff_ne]; omega
    have h63 : (col : Int) < 64 := by omega
    clear e hpow hsh h
    generalize ((2 ^ col : Nat) : Int) = z at *
    go_enter Try.func135, Try.ntmps135
    go_wp2
    go_ret
    exact ⟨congrArg (fun x => Ending.returned (.int .u64 x)) HP.out, (Below.refl _ _).alloc (Nat.le_refl _) _⟩

set_option maxRecDepth 100000 in
theorem llCol_any (t n : Int) (vp : Value) (T col set : Nat) (hT : t = (T : Int)) (ht : T ≤ 30) (hc : col ≤ T) (hs : set < 2 ^ 64) (w : World) :
    Calls Try.prog 136 #[.agg #[.int .i64 t, .int .i64 n, vp], .int .u64 (set : Int), .int .i64 col] w fun e w' => e = .returned (.bool (set.testBit (Ll.colbit T col))) ∧ Below w.heap.size w w' := by
  subst hT
  by_cases h : col = T
  · subst h
    have e : Ll.colbit col col = 63 := by simp [Ll.colbit]
    rw [e]
    have hb : ((col : Int) == (col : Int)) = true := by rw [beq_iff_eq]
    have HS := Lib.hid hs
    clear e hs
    go_enter Try.func136, Try.ntmps136
    go_wp2
    go_ret
    have e2 : ((set : Int) / 9223372036854775808 == 1) = set.testBit 63 := by
      have h1 := Ll.shr63 HS.out
      have h2 : (set : Int) / 9223372036854775808 = ((set / 2 ^ 63 : Nat) : Int) := by omega
      rw [h2, h1]
      cases set.testBit 63 <;> rfl
    exact ⟨congrArg (fun b => Ending.returned (.bool b)) e2, (Below.refl _ _).alloc (Nat.le_refl _) _⟩
  · have e : Ll.colbit T col = col := by simp [Ll.colbit, h]
    rw [e]
    have hb : ((col : Int) == (T : Int)) = false := by rw [beq_eq_false_iff_ne]; omega
    have h63 : (col : Int) < 64 := by omega
    have HS := Lib.hid hs
    clear e hs h
    go_enter Try.func136, Try.ntmps136
    go_wp2
    go_ret
    have e2 : (((set : Int) / 2 ^ col).tmod 2 == 1) = set.testBit col := by
      have h1 := Ll.shr_bit (m := set) (k := col)
      have h2 : (set : Int) / 2 ^ col = ((set / 2 ^ col : Nat) : Int) := by simp
      rw [h2, show ((2 : Int)) = ((2 : Nat) : Int) from rfl, ← Int.ofNat_tmod, h1]
      cases set.testBit col <;> rfl
    exact ⟨congrArg (fun b => Ending.returned (.bool b)) e2, (Below.refl _ _).alloc (Nat.le_refl _) _⟩
end Go.Proofs.Ytldapomcjfkeeaa
