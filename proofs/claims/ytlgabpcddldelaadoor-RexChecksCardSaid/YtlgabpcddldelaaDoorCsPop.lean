/-
  How many bits a word has: the adding of neighbours, byte by byte. (Plain; nothing of the program is claimed.)
-/
import Derived.Test.YtlgabpcddldelaaDoorCsBits
namespace Go.Proofs.YtlgabpcddldelaaDoor
set_option linter.unusedVariables false
set_option linter.unusedSimpArgs false

namespace Cs
/-- A number, byte by byte. -/
def lanes (g : Nat → Nat) : Nat → Nat → Nat
  | 0, _ => 0
  | n + 1, x => g (x % 256) + 256 * lanes g n (x / 256)
theorem lanes_add (f g : Nat → Nat) : ∀ n x, lanes f n x + lanes g n x = lanes (fun e => f e + g e) n x
  | 0, _ => rfl
  | n + 1, x => by
    have := lanes_add f g n (x / 256)
    simp only [lanes]
    rw [← this]
    omega
theorem lanes_congr {f g : Nat → Nat} (h : ∀ e, e < 256 → f e = g e) : ∀ n x, lanes f n x = lanes g n x
  | 0, _ => rfl
  | n + 1, x => by simp only [lanes]; rw [h _ (Nat.mod_lt _ (by decide)), lanes_congr h n]
theorem lanes_comp {f h : Nat → Nat} (hh : ∀ e, e < 256 → h e < 256) : ∀ n x, lanes f n (lanes h n x) = lanes (fun e => f (h e)) n x
  | 0, _ => rfl
  | n + 1, x => by
    have hd := hh (x % 256) (Nat.mod_lt _ (by decide))
    simp only [lanes]
    rw [Nat.add_mul_mod_self_left, Nat.mod_eq_of_lt hd, Nat.add_mul_div_left _ _ (by decide), Nat.div_eq_of_lt hd, Nat.zero_add, lanes_comp hh n]
theorem lanes_lt {h : Nat → Nat} (hh : ∀ e, e < 256 → h e < 256) : ∀ n x, lanes h n x < 256 ^ n
  | 0, _ => by simp [lanes]
  | n + 1, x => by
    have h1 := hh (x % 256) (Nat.mod_lt _ (by decide))
    have h2 := lanes_lt hh n (x / 256)
    simp only [lanes]
    rw [Nat.pow_succ]; omega
theorem and_split (a b c d : Nat) (ha : a < 256) (hc : c < 256) : (a + 256 * b) &&& (c + 256 * d) = (a &&& c) + 256 * (b &&& d) := by
  apply Nat.eq_of_testBit_eq
  intro i
  have h3 : a &&& c < 2 ^ 8 := Nat.lt_of_le_of_lt Nat.and_le_left ha
  rw [Nat.testBit_and, Nat.add_comm a, Nat.add_comm c, Nat.add_comm (a &&& c), show (256 : Nat) = 2 ^ 8 by rfl, Nat.testBit_two_pow_mul_add _ ha, Nat.testBit_two_pow_mul_add _ hc, Nat.testBit_two_pow_mul_add _ h3]
  split
  · rw [Nat.testBit_and]
  · rw [Nat.testBit_and]
/-- A shift within the bytes, under a mask. -/
theorem shift_and {k m : Nat} (hk : k ≤ 7) (hm : m < 2 ^ (8 - k)) : ∀ n x, (x / 2 ^ k) &&& lanes (fun _ => m) n 0 = lanes (fun e => (e / 2 ^ k) &&& m) n x
  | 0, x => by simp [lanes]
  | n + 1, x => by
    have ih := shift_and hk hm n (x / 256)
    simp only [lanes]
    rw [Nat.zero_div]
    have hm256 : m < 256 := Nat.lt_of_lt_of_le hm (by rw [show (256 : Nat) = 2 ^ 8 by rfl]; exact Nat.pow_le_pow_right (by decide) (by omega))
    have e0 : x / 256 / 2 ^ k = x / 2 ^ k / 256 := by rw [Nat.div_div_eq_div_mul, Nat.div_div_eq_div_mul, Nat.mul_comm]
    have e1 : x / 2 ^ k = (x / 2 ^ k) % 256 + 256 * ((x / 256) / 2 ^ k) := by
      rw [e0]
      generalize x / 2 ^ k = u
      omega
    rw [e1, and_split _ _ _ _ (Nat.mod_lt _ (by decide)) hm256, ih]
    congr 1
    apply Nat.eq_of_testBit_eq
    intro i
    rw [Nat.testBit_and, Nat.testBit_and, show (256 : Nat) = 2 ^ 8 by rfl, Nat.testBit_mod_two_pow, Nat.testBit_div_two_pow, Nat.testBit_div_two_pow, Nat.testBit_mod_two_pow]
    by_cases hi : i < 8 - k
    · rw [decide_eq_true (by omega), decide_eq_true (by omega)]
    · have : m.testBit i = false := Nat.testBit_lt_two_pow (Nat.lt_of_lt_of_le hm (Nat.pow_le_pow_right (by decide) (by omega)))
      rw [this, Bool.and_false, Bool.and_false]
/-- Nibbles added, under a mask. -/
theorem nib_add {h : Nat → Nat} (hh : ∀ e, e < 256 → h e % 16 ≤ 4 ∧ h e / 16 ≤ 4) : ∀ n x, (lanes h n x / 16 + lanes h n x) &&& lanes (fun _ => 15) n 0 = lanes (fun e => (h e + h e / 16) % 16) n x
  | 0, x => by simp [lanes]
  | n + 1, x => by
    have ih := nib_add hh n (x / 256)
    obtain ⟨h1, h2⟩ := hh (x % 256) (Nat.mod_lt _ (by decide))
    have h3 : lanes h n (x / 256) % 16 ≤ 4 := by
      cases n with
      | zero => simp [lanes]
      | succ n =>
        have := (hh (x / 256 % 256) (Nat.mod_lt _ (by decide))).1
        simp only [lanes]
        omega
    simp only [lanes]
    rw [Nat.zero_div]
    generalize h (x % 256) = d at *
    generalize lanes h n (x / 256) = z at *
    have e1 : (d + 256 * z) / 16 + (d + 256 * z) = (d + d / 16 + 16 * (z % 16)) + 256 * (z / 16 + z) := by omega
    rw [e1, and_split _ _ _ _ (by omega) (by decide), ih]
    congr 1
    have e2 := Nat.and_two_pow_sub_one_eq_mod (d + d / 16 + 16 * (z % 16)) 4
    rw [show (15 : Nat) = 2 ^ 4 - 1 by rfl, e2]
    omega
def p8 (e : Nat) : Nat := ((List.range 8).filter e.testBit).length
def s1 (e : Nat) : Nat := ((e / 2 ^ 1) &&& 85) + ((e / 2 ^ 0) &&& 85)
def s2 (e : Nat) : Nat := ((e / 2 ^ 2) &&& 51) + ((e / 2 ^ 0) &&& 51)
theorem s1_lt : ∀ e, e < 256 → s1 e < 256 := by decide +kernel
theorem s2_ok : ∀ e, e < 256 → s2 (s1 e) % 16 ≤ 4 ∧ s2 (s1 e) / 16 ≤ 4 := by decide +kernel
theorem s2_lt : ∀ e, e < 256 → s2 (s1 e) < 256 := by decide +kernel
theorem p8_eq : ∀ e, e < 256 → (s2 (s1 e) + s2 (s1 e) / 16) % 16 = p8 e := by decide +kernel
theorem p8_le (e : Nat) : p8 e ≤ 8 := by
  unfold p8
  have := List.length_filter_le e.testBit (List.range 8)
  rw [List.length_range] at this; exact this
theorem m0 : lanes (fun _ => 85) 8 0 = 6148914691236517205 := by decide
theorem m1 : lanes (fun _ => 51) 8 0 = 3689348814741910323 := by decide
theorem m2 : lanes (fun _ => 15) 8 0 = 1085102592571150095 := by decide
theorem pop1 (x : Nat) : (x / 2 &&& 6148914691236517205) + (x &&& 6148914691236517205) = lanes s1 8 x := by
  have h1 := shift_and (k := 1) (m := 85) (by omega) (by decide) 8 x
  have h2 := shift_and (k := 0) (m := 85) (by omega) (by decide) 8 x
  rw [m0] at h1 h2
  rw [Nat.pow_zero, Nat.div_one] at h2
  rw [show x / 2 = x / 2 ^ 1 by rfl, h1, h2, lanes_add]
  rfl
theorem pop2 (x : Nat) : (lanes s1 8 x / 4 &&& 3689348814741910323) + (lanes s1 8 x &&& 3689348814741910323) = lanes (fun e => s2 (s1 e)) 8 x := by
  have h1 := shift_and (k := 2) (m := 51) (by omega) (by decide) 8 (lanes s1 8 x)
  have h2 := shift_and (k := 0) (m := 51) (by omega) (by decide) 8 (lanes s1 8 x)
  rw [m1] at h1 h2
  rw [Nat.pow_zero, Nat.div_one] at h2
  rw [show lanes s1 8 x / 4 = lanes s1 8 x / 2 ^ 2 by rfl, h1, h2, lanes_add, lanes_comp s1_lt]
  rfl
theorem pop3 (x : Nat) : (lanes (fun e => s2 (s1 e)) 8 x / 16 + lanes (fun e => s2 (s1 e)) 8 x) &&& 1085102592571150095 = lanes p8 8 x := by
  rw [← m2, nib_add s2_ok, lanes_congr p8_eq]
/-- The bits, byte by byte. -/
theorem bits_lanes (x : Nat) (hx : x < 18446744073709551616) : (bitsL x).length = p8 (x % 256) + p8 (x / 256 % 256) + p8 (x / 256 / 256 % 256) + p8 (x / 256 / 256 / 256 % 256) + p8 (x / 256 / 256 / 256 / 256 % 256) + p8 (x / 256 / 256 / 256 / 256 / 256 % 256) + p8 (x / 256 / 256 / 256 / 256 / 256 / 256 % 256) + p8 (x / 256 / 256 / 256 / 256 / 256 / 256 / 256 % 256) := by
  have key : ∀ n x, ((List.range (8 * (n + 1))).filter x.testBit).length = p8 (x % 256) + ((List.range (8 * n)).filter (x / 256).testBit).length := by
    intro n x
    rw [show 8 * (n + 1) = 8 + 8 * n by omega, List.range_add, List.filter_append, List.length_append, List.filter_map, List.length_map]
    congr 1
    · unfold p8
      congr 1
      apply List.filter_congr
      intro i hi
      have := List.mem_range.1 hi
      rw [show (256 : Nat) = 2 ^ 8 by rfl, Nat.testBit_mod_two_pow, decide_eq_true (by omega), Bool.true_and]
    · congr 1
      apply List.filter_congr
      intro i hi
      simp only [Function.comp]
      rw [show (256 : Nat) = 2 ^ 8 by rfl, Nat.testBit_div_two_pow, Nat.add_comm]
  unfold bitsL
  rw [show (64 : Nat) = 8 * (7 + 1) by rfl, key, key, key, key, key, key, key, key]
  simp
  omega
theorem pop_sum {b0 b1 b2 b3 b4 b5 b6 b7 L0 L1 L2 L3 L4 L5 L6 y z v : Nat} (h0 : b0 ≤ 8) (h1 : b1 ≤ 8) (h2 : b2 ≤ 8) (h3 : b3 ≤ 8) (h4 : b4 ≤ 8) (h5 : b5 ≤ 8) (h6 : b6 ≤ 8) (h7 : b7 ≤ 8)
    (e6 : L6 = b6 + 256 * b7) (e5 : L5 = b5 + 256 * L6) (e4 : L4 = b4 + 256 * L5) (e3 : L3 = b3 + 256 * L4) (e2 : L2 = b2 + 256 * L3) (e1 : L1 = b1 + 256 * L2) (e0 : L0 = b0 + 256 * L1)
    (hy : y = L0 + L0 / 256) (hz : z = y + y / 65536) (hv : v = z + z / 4294967296) : v < 9223372036854775808 ∧ y < 9223372036854775808 ∧ z < 9223372036854775808 ∧ v % 128 = b0 + b1 + b2 + b3 + b4 + b5 + b6 + b7 := by
  have d0 : L0 / 256 = L1 := by omega
  have y1 : y = L0 + L1 := by omega
  have y2 : y = (b0 + 257 * b1 + 256 * b2) + 65536 * (L2 + L3) := by omega
  have d1 : y / 65536 = L2 + L3 := by rw [y2, Nat.add_mul_div_left _ _ (by decide), Nat.div_eq_of_lt (by omega), Nat.zero_add]
  have z1 : z = L0 + L1 + L2 + L3 := by omega
  have b6' : L6 ≤ 2056 := by omega
  have b5' : L5 ≤ 526344 := by omega
  have b4' : L4 ≤ 134744072 := by omega
  have z2 : z = (b0 + 257 * b1 + 65793 * b2 + 16843009 * b3 + 16843008 * b4 + 16842752 * b5 + 16777216 * b6) + 4294967296 * (L4 + L5 + L6 + b7) := by omega
  have d2 : z / 4294967296 = L4 + L5 + L6 + b7 := by rw [z2, Nat.add_mul_div_left _ _ (by decide), Nat.div_eq_of_lt (by omega), Nat.zero_add]
  have v1 : v = z + (L4 + L5 + L6 + b7) := by rw [hv, d2]
  have b3' : L3 ≤ 34494482440 := by omega
  have b2' : L2 ≤ 8830587504648 := by omega
  have b1' : L1 ≤ 2260630401189896 := by omega
  have b0' : L0 ≤ 578721382704613384 := by omega
  clear hy hz hv d0 d1 d2 y2 z2
  have v2 : v = (b0 + b1 + b2 + b3 + b4 + b5 + b6 + b7) + 128 * (2 * (L1 + L2 + L3 + L4 + L5 + L6 + b7)) := by omega
  refine ⟨by omega, by omega, by omega, ?_⟩
  rw [v2, Nat.add_mul_mod_self_left, Nat.mod_eq_of_lt (by omega)]
theorem pop_all (x : Nat) (hx : x < 18446744073709551616) (y z v : Nat) (hy : y = lanes p8 8 x + lanes p8 8 x / 256) (hz : z = y + y / 65536) (hv : v = z + z / 4294967296) : v < 9223372036854775808 ∧ y < 9223372036854775808 ∧ z < 9223372036854775808 ∧ v % 128 = (bitsL x).length := by
  rw [bits_lanes x hx]
  refine pop_sum (p8_le _) (p8_le _) (p8_le _) (p8_le _) (p8_le _) (p8_le _) (p8_le _) (p8_le _) rfl rfl rfl rfl rfl rfl ?_ hy hz hv
  simp [lanes]
end Cs
end Go.Proofs.YtlgabpcddldelaaDoor
