/-
  Sum of the reference computes the same as More of package sum.
-/
import Derived.Test.YtldapomcjfkeeaaSum
namespace Go.Proofs.Ytldapomcjfkeeaa
open Go.ChangeShapes Go.WideShapes Go.ChangeAt Go.RowKit

namespace Crc
/-- Is the bit that falls out 1? -/
def lowB (v : Int) (c : UInt8) (j : Nat) : Bool :=
  (bits BinOp.xor IntKind.u64 (bits BinOp.and IntKind.u64 v 1) (bits BinOp.and IntKind.u64 (IntKind.u64.wrap c.toNat / 2 ^ j) 1) == 1)
def rstep (c : UInt8) (j : Nat) (v : Int) : Int := if lowB v c j = true then bits BinOp.xor IntKind.u64 (v / 2) 3988292384 else v / 2
def riter (c : UInt8) : Nat → Int → Int
  | 0, v => v
  | n + 1, v => rstep c n (riter c n v)
def rbyte (v : Int) (c : UInt8) : Int := riter c 8 v
theorem riter_succ (c : UInt8) (j : Nat) (v : Int) : riter c (j + 1) v = rstep c j (riter c j v) := rfl

/- The same on natural numbers. -/
def nstep (r : Nat) : Nat := (r / 2) ^^^ (3988292384 &&& ((4294967296 - (r &&& 1)) % 4294967296))
def nlow (r c j : Nat) : Nat := (r &&& 1) ^^^ ((c / 2 ^ j) &&& 1)
def nrstep (c j r : Nat) : Nat := if nlow r c j = 1 then (r / 2) ^^^ 3988292384 else r / 2

theorem istep_nat (v : Nat) (h : v < 4294967296) : istep (v : Int) = ((nstep v : Nat) : Int) := by
  have e1 : bits BinOp.and IntKind.u32 (v : Int) 1 = ((v &&& 1 : Nat) : Int) := u32_and_nat v 1 h (by decide)
  have e2 : v &&& 1 < 2 ^ 32 := Nat.and_lt_two_pow (n := 32) _ (by decide)
  have e3 : (-((v &&& 1 : Nat) : Int) % 4294967296) = (((4294967296 - (v &&& 1)) % 4294967296 : Nat) : Int) := by omega
  have e4 : (v : Int) / 2 = ((v / 2 : Nat) : Int) := by omega
  have e5 := u32_and_nat 3988292384 ((4294967296 - (v &&& 1)) % 4294967296) (by decide) (Nat.mod_lt _ (by decide))
  have e6 : 3988292384 &&& ((4294967296 - (v &&& 1)) % 4294967296) < 2 ^ 32 := Nat.and_lt_two_pow (n := 32) _ (Nat.mod_lt _ (by decide))
  unfold istep nstep
  rw [e1, e3, e4, ← u32_xor_nat _ _ (by omega) (by simpa using e6), ← e5]
  rfl
theorem wrap_c (c : UInt8) : IntKind.u64.wrap ((c.toNat : Nat) : Int) = ((c.toNat : Nat) : Int) := by
  have := c.toNat_lt
  simp only [IntKind.wrap, IntKind.bits, IntKind.signed]
  simp
  omega
theorem and1_lt (a : Nat) : a &&& 1 < 2 := by rw [Nat.and_one_is_mod]; omega
theorem nlow_lt (r c j : Nat) : nlow r c j < 2 := Nat.xor_lt_two_pow (n := 1) (and1_lt _) (and1_lt _)
theorem lowB_nat (v : Nat) (c : UInt8) (j : Nat) (h : v < 4294967296) : lowB (v : Int) c j = decide (nlow v c.toNat j = 1) := by
  have hc := c.toNat_lt
  have hd : c.toNat / 2 ^ j < 256 := Nat.lt_of_le_of_lt (Nat.div_le_self _ _) (by omega)
  have a1 := and1_lt v
  have a2 := and1_lt (c.toNat / 2 ^ j)
  have e1 : bits BinOp.and IntKind.u64 (v : Int) 1 = ((v &&& 1 : Nat) : Int) := u64_and_nat v 1 (by omega) (by decide)
  have e2 : ((c.toNat : Int) / 2 ^ j) = ((c.toNat / 2 ^ j : Nat) : Int) := by simp
  have e3 : bits BinOp.and IntKind.u64 ((c.toNat / 2 ^ j : Nat) : Int) 1 = (((c.toNat / 2 ^ j) &&& 1 : Nat) : Int) := u64_and_nat _ 1 (by omega) (by decide)
  unfold lowB
  rw [wrap_c, e1, e2, e3, u64_xor_nat _ _ (by omega) (by omega)]
  show (((nlow v c.toNat j : Nat) : Int) == 1) = _
  have := nlow_lt v c.toNat j
  rw [Bool.eq_iff_iff]
  simp
  omega
theorem rstep_nat (v : Nat) (c : UInt8) (j : Nat) (h : v < 4294967296) : rstep c j (v : Int) = ((nrstep c.toNat j v : Nat) : Int) := by
  have e4 : (v : Int) / 2 = ((v / 2 : Nat) : Int) := by omega
  unfold rstep nrstep
  rw [lowB_nat v c j h]
  by_cases hl : nlow v c.toNat j = 1
  · rw [if_pos (by simpa using hl), if_pos hl, e4]
    exact u64_xor_nat _ 3988292384 (by omega) (by decide)
  · rw [if_neg (by simpa using hl), if_neg hl, e4]
theorem nrstep_lt (c j v : Nat) (h : v < 4294967296) : nrstep c j v < 4294967296 := by
  unfold nrstep
  split
  · exact Nat.xor_lt_two_pow (n := 32) (by omega) (by decide)
  · omega
theorem nstep_lt (v : Nat) (h : v < 4294967296) : nstep v < 4294967296 := by
  unfold nstep
  exact Nat.xor_lt_two_pow (n := 32) (by omega) (Nat.and_lt_two_pow (n := 32) _ (Nat.mod_lt _ (by decide)))

theorem xor_half (a b : Nat) : (a ^^^ b) / 2 = (a / 2) ^^^ (b / 2) := by
  have := Nat.shiftRight_xor_distrib (a := a) (b := b) (i := 1)
  simpa [Nat.shiftRight_eq_div_pow] using this
/-- One step of each: the program's register is the reference's, with what is left of the byte. -/
theorem step_same (r c j : Nat) : nstep (r ^^^ (c / 2 ^ j)) = nrstep c j r ^^^ (c / 2 ^ (j + 1)) := by
  have hd : c / 2 ^ j / 2 = c / 2 ^ (j + 1) := by rw [Nat.div_div_eq_div_mul, Nat.pow_succ]
  have hl : (r ^^^ (c / 2 ^ j)) &&& 1 = nlow r c j := Nat.and_xor_distrib_right
  unfold nstep nrstep
  rw [xor_half, hl, hd]
  have := nlow_lt r c j
  by_cases h1 : nlow r c j = 1
  · rw [if_pos h1, h1, show 3988292384 &&& ((4294967296 - 1) % 4294967296) = 3988292384 by decide, Nat.xor_assoc, Nat.xor_assoc, Nat.xor_comm 3988292384]
  · have h0 : nlow r c j = 0 := by omega
    rw [if_neg h1, h0, show 3988292384 &&& ((4294967296 - 0) % 4294967296) = 0 by decide, Nat.xor_zero]
theorem riter_nat (c : UInt8) (v : Nat) (h : v < 4294967296) (j : Nat) :
    ∃ r : Nat, r < 4294967296 ∧ riter c j (v : Int) = (r : Int) ∧ iter istep j ((v ^^^ c.toNat : Nat) : Int) = ((r ^^^ (c.toNat / 2 ^ j) : Nat) : Int) := by
  have hc := c.toNat_lt
  induction j with
  | zero => exact ⟨v, h, rfl, by simp [iter]⟩
  | succ j ih =>
    obtain ⟨r, hr, e1, e2⟩ := ih
    refine ⟨nrstep c.toNat j r, nrstep_lt _ _ _ hr, ?_, ?_⟩
    · rw [riter_succ, e1, rstep_nat r c j hr]
    · have hd : c.toNat / 2 ^ j < 4294967296 := Nat.lt_of_le_of_lt (Nat.div_le_self _ _) (by omega)
      rw [iter_succ, e2, istep_nat _ (Nat.xor_lt_two_pow (n := 32) hr hd), step_same]
theorem byte_same (v : Int) (c : UInt8) (h : In v) : rbyte v c = ibyte v c := by
  have hc := c.toNat_lt
  obtain ⟨h0, h1⟩ := h
  obtain ⟨v, rfl⟩ := Int.eq_ofNat_of_zero_le h0
  obtain ⟨r, hr, e1, e2⟩ := riter_nat c v (by omega) 8
  unfold rbyte ibyte
  rw [e1, show ((c.toNat : Int) % 4294967296) = (c.toNat : Int) by omega, u32_xor_nat _ _ (by omega) (by omega), e2,
    show c.toNat / 2 ^ 8 = 0 by omega, Nat.xor_zero]
theorem rflip_same (v : Int) (h : In v) : bits BinOp.xor IntKind.u64 v 4294967295 = iflip v := by
  obtain ⟨h0, h1⟩ := h
  obtain ⟨v, rfl⟩ := Int.eq_ofNat_of_zero_le h0
  unfold iflip
  have e1 := u64_xor_nat v 4294967295 (by omega) (by decide)
  have e2 := u32_xor_nat 4294967295 v (by decide) (by omega)
  have e3 : (IntKind.u32.max : Int) = ((4294967295 : Nat) : Int) := by decide
  rw [show (4294967295 : Int) = ((4294967295 : Nat) : Int) from rfl, e1, e3, e2, Nat.xor_comm]
theorem riter_in (c : UInt8) (v : Int) (h : In v) (j : Nat) : In (riter c j v) := by
  obtain ⟨h0, h1⟩ := h
  obtain ⟨v, rfl⟩ := Int.eq_ofNat_of_zero_le h0
  obtain ⟨r, hr, e1, e2⟩ := riter_nat c v (by omega) j
  rw [e1]; exact ⟨by omega, by omega⟩
theorem rfold_next (l : List UInt8) (s : ByteArray) (k : Nat) (v n : Int) (hv0 : In v) (hk : k < s.size) (hl : s.data.toList = l) (hv : (l.take k).foldl ibyte (iflip n) = v) :
    (l.take (k + 1)).foldl ibyte (iflip n) = riter s[k] 8 v := by
  rw [fold_next l s k v n hk hl hv]
  exact (byte_same v s[k] hv0).symm
end Crc

theorem rsum_any (n : Int) (s : ByteArray) (hn : Crc.In n) (hs : s.size ≤ maxLen) (w : World) :
    Calls Try.prog 74 #[.int .u32 n, .string s] w fun e w' => e = .returned (.int .u32 (Crc.more n s.data.toList)) ∧ w = w' := by
  unfold maxLen at hs
  have Hn := Lib.hid hn
  have HF := Lib.hid (Crc.rflip_same n hn)
  obtain ⟨hn0, hn1⟩ := hn
  generalize hl : s.data.toList = l
  have Hl := Lib.hid hl; clear hl
  go_enter Try.func74, Try.ntmps74
  go_wp2
  go_loop [5, 6, 7, 8, 9] (fun r i b bit low => ∃ (k : Nat), k ≤ s.size ∧ i = .int .i64 k ∧ r = .int .u64 ((l.take k).foldl Crc.ibyte (Crc.iflip n))) (fun r i _ _ _ => s.size - (intOf i).toNat)
  case atStart => exact ⟨0, by omega, rfl, int_eq (by rw [HF.out]; rfl)⟩
  case round =>
    obtain ⟨k, hk, rfl, rfl⟩ := hrel
    have hvin := Crc.fold_in (l.take k) (Crc.iflip n) (Crc.iflip_in _ Hn.out)
    generalize hv : (l.take k).foldl Crc.ibyte (Crc.iflip n) = v at *
    have HV := Lib.hid hv; clear hv
    have Hvin := Lib.hid hvin; clear hvin
    by_cases hlt : k < s.size
    · have hnext := Lib.hid (Crc.rfold_next l s k v n Hvin.out hlt Hl.out HV.out)
      go_wp2
      go_loop [5, 7, 8, 9] (fun r b bit low => ∃ (j : Nat), j ≤ 8 ∧ b = .int .i64 j ∧ r = .int .u64 (Crc.riter s[k] j v)) (fun r b _ _ => 8 - (intOf b).toNat)
      case atStart => exact ⟨0, by omega, rfl, rfl⟩
      case round =>
        obtain ⟨j, hj, rfl, rfl⟩ := hrel
        by_cases hlj : j < 8
        · obtain ⟨hy0, hy1⟩ := Crc.riter_in s[k] v Hvin.out j
          have hst := Lib.hid (Crc.riter_succ s[k] j v)
          generalize Crc.riter s[k] j v = y at *
          go_wp2
          all_goals go_round
          all_goals try (case measure => simp [intOf]; omega)
          · have h1 : Crc.lowB y s[k] j = true := by assumption
            exact ⟨j + 1, by omega, by go_num, int_eq (by rw [hst.out]; unfold Crc.rstep; rw [if_pos h1])⟩
          · have h1 : Crc.lowB y s[k] j = false := by assumption
            exact ⟨j + 1, by omega, by go_num, int_eq (by rw [hst.out]; unfold Crc.rstep; rw [h1, if_neg (by decide)])⟩
        · have : j = 8 := by omega
          subst this
          go_wp2
          go_round
          case rel => exact ⟨k + 1, by omega, by go_num, int_eq (by rw [hnext.out])⟩
          case measure => simp [intOf]; omega
    · have : k = s.size := by omega
      subst this
      have hfin : Hid (v = l.foldl Crc.ibyte (Crc.iflip n)) := Lib.hid (by
        rw [← HV.out, ← Hl.out, List.take_of_length_le (by simp)])
      have H2 := Lib.hid (Crc.rflip_same v Hvin.out)
      have H3 := Lib.hid (Crc.iflip_in v Hvin.out)
      go_wp2
      go_ret
      refine ⟨ret_int ?_, rfl⟩
      rw [H2.out, ← Crc.more_eq n v l hfin.out]
      exact Int.emod_eq_of_lt H3.out.1 H3.out.2
end Go.Proofs.Ytldapomcjfkeeaa
