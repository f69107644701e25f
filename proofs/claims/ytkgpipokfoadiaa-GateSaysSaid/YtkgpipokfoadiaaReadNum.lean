/-
  ReadNum of package pack and of the reference: what they compute.
-/
import Derived.Test.YtkgpipokfoadiaaMem
namespace Go.Proofs.Ytkgpipokfoadiaa
open Go.ChangeShapes Go.WideShapes Go.ChangeAt Go.RowKit

namespace Pack
/-- Byte j of a text, 0 behind its end. -/
def bat (s : ByteArray) (j : Nat) : Int := ((s.data.toList[j]?).getD 0).toNat
theorem bat_get (s : ByteArray) (k : Nat) (h : k < s.size) : ((s[k]'h).toNat : Int) = bat s k := by
  have h' : k < s.data.toList.length := by simpa using h
  unfold bat
  rw [List.getElem?_eq_getElem h']
  rfl
theorem bat_nn (s : ByteArray) (k : Nat) : 0 ≤ bat s k := by unfold bat; omega
theorem bat_lt (s : ByteArray) (k : Nat) : bat s k < 256 := by unfold bat; have := ((s.data.toList[k]?).getD 0).toNat_lt; omega
/-- The number that the first k bytes tell. -/
def val (s : ByteArray) : Nat → Int
  | 0 => 0
  | k + 1 => val s k + (bat s k % 128) * 128 ^ k
theorem val_succ (s : ByteArray) (k : Nat) : val s (k + 1) = val s k + (bat s k % 128) * 128 ^ k := rfl
theorem val_nn (s : ByteArray) (k : Nat) : 0 ≤ val s k := by
  induction k with
  | zero => exact Int.le_refl _
  | succ k ih =>
    have h1 : 0 ≤ bat s k % 128 := by omega
    have h2 : (0 : Int) ≤ 128 ^ k := Int.pow_nonneg (by decide)
    have := Int.mul_nonneg h1 h2
    rw [val_succ]; omega
theorem val_lt (s : ByteArray) (k : Nat) : val s k < 128 ^ k := by
  induction k with
  | zero => show (0 : Int) < 128 ^ 0; decide
  | succ k ih =>
    have h1 : bat s k % 128 ≤ 127 := by omega
    have h2 : (0 : Int) ≤ 128 ^ k := Int.pow_nonneg (by decide)
    have := Int.mul_le_mul_of_nonneg_right h1 h2
    rw [val_succ, Int.pow_succ]; omega
theorem wrap_u64 (n : Int) : IntKind.u64.wrap n = n % 18446744073709551616 := by simp [IntKind.wrap, IntKind.bits, IntKind.signed]
theorem or_add (k : IntKind) (hk : k = .u64) (a b p : Nat) (ha : a < 2 ^ p) (hb : b * 2 ^ p < 2 ^ 64) (hp : p ≤ 64) : bits .or k (a : Int) ((b * 2 ^ p : Nat) : Int) = ((a + b * 2 ^ p : Nat) : Int) := by
  subst hk
  have ha' : a < 18446744073709551616 := Nat.lt_of_lt_of_le ha (by
    have := Nat.pow_le_pow_right (n := 2) (by decide) hp
    omega)
  rw [u64_or_nat a (b * 2 ^ p) ha' (by omega)]
  congr 1
  rw [Nat.or_comm, Nat.mul_comm b, ← Nat.two_pow_add_eq_or_of_lt ha, Nat.add_comm]
/-- The step of the loop, as the walk spells it. -/
theorem val_step (s : ByteArray) (k : Nat) (hk : k ≤ 9) (h9 : k = 9 → bat s 9 ≤ 1) (m : Int) (hm : m = bat s k % 128) :
    bits .or .u64 (val s k) (IntKind.u64.wrap (m * 2 ^ (7 * k))) = val s (k + 1) := by
  obtain ⟨a, ha⟩ := Int.eq_ofNat_of_zero_le (val_nn s k)
  have h0 : 0 ≤ m := by omega
  obtain ⟨b, hb⟩ := Int.eq_ofNat_of_zero_le h0
  have h1 := val_lt s k
  have e1 : (128 : Int) ^ k = ((2 ^ (7 * k) : Nat) : Int) := by rw [Nat.pow_mul]; simp
  rw [val_succ, ← hm]
  rw [e1] at h1 ⊢
  rw [ha] at h1 ⊢
  rw [hb]
  have hlt : a < 2 ^ (7 * k) := by exact_mod_cast h1
  have hbb : b * 2 ^ (7 * k) < 2 ^ 64 := by
    by_cases h : k = 9
    · subst h
      have := h9 rfl
      have hn9 := bat_nn s 9
      have : b ≤ 1 := by omega
      have : b * 2 ^ (7 * 9) ≤ 1 * 2 ^ (7 * 9) := Nat.mul_le_mul_right _ this
      omega
    · have hb' : b ≤ 127 := by omega
      have h2 : 2 ^ (7 * k) ≤ 2 ^ 56 := Nat.pow_le_pow_right (by decide) (by omega)
      have : b * 2 ^ (7 * k) ≤ 127 * 2 ^ 56 := Nat.mul_le_mul hb' h2
      omega
  have e2 : ((b : Int) * 2 ^ (7 * k)) = ((b * 2 ^ (7 * k) : Nat) : Int) := by simp
  have e3 : IntKind.u64.wrap ((b * 2 ^ (7 * k) : Nat) : Int) = ((b * 2 ^ (7 * k) : Nat) : Int) := by
    rw [wrap_u64]
    omega
  rw [e2, e3, or_add .u64 rfl a b (7 * k) hlt hbb (by omega)]
  simp
theorem and127 (c : Int) (h0 : 0 ≤ c) (h1 : c < 256) : bits .and .u8 c 127 = c % 128 := by
  rw [u8_and c 127 h0 h1 (by decide) (by decide)]
  have : c.toNat &&& (127 : Int).toNat = c.toNat % 128 := Nat.and_two_pow_sub_one_eq_mod c.toNat 7
  rw [this]
  omega
theorem val_walk (s : ByteArray) (k : Nat) (h : k < s.size) (hk : k ≤ 9) (h9 : k = 9 → bat s 9 ≤ 1) :
    bits .or .u64 (val s k) (IntKind.u64.wrap (IntKind.u64.wrap (bits .and .u8 ((s[k]'h).toNat : Int) 127) * 2 ^ (7 * k))) = val s (k + 1) := by
  have h0 := bat_nn s k
  have h1 := bat_lt s k
  rw [bat_get s k h, and127 _ h0 h1]
  refine val_step s k hk h9 _ ?_
  rw [wrap_u64]; omega
/-- How many of the first f bytes, from the front, tell that another one follows. -/
def lead (s : ByteArray) : Nat → Nat
  | 0 => 0
  | f + 1 => if lead s f = f ∧ f < s.size ∧ 128 ≤ bat s f then f + 1 else lead s f
theorem val_room (s : ByteArray) (k : Nat) (h : k < 9 ∨ (k = 9 ∧ bat s 9 ≤ 1)) : val s (k + 1) < 18446744073709551616 := by
  rcases h with h | ⟨rfl, h⟩
  · have h1 := val_lt s (k + 1)
    have h2 : (128 : Int) ^ (k + 1) ≤ 128 ^ 9 := by
      have : (128 : Nat) ^ (k + 1) ≤ 128 ^ 9 := Nat.pow_le_pow_right (by decide) (by omega)
      exact_mod_cast this
    have h3 : (128 : Int) ^ 9 = 9223372036854775808 := by decide
    omega
  · have h1 := val_lt s 9
    have h0 := bat_nn s 9
    have h3 : (128 : Int) ^ 9 = 9223372036854775808 := by decide
    rw [h3] at h1
    rw [val_succ, h3]
    have : bat s 9 % 128 ≤ 1 := by omega
    omega
theorem down_next (s : ByteArray) (k j : Nat) (v : Int) (h0 : 0 ≤ v) (h : val s (k + 1) = val s (j + 1) + v * 128 ^ (j + 1)) :
    0 ≤ v * 128 + bat s j % 128 ∧ val s (k + 1) = val s j + (v * 128 + bat s j % 128) * 128 ^ j := by
  refine ⟨by omega, ?_⟩
  rw [h, val_succ, Int.pow_succ, Int.add_mul, Int.mul_comm (128 ^ j) 128, ← Int.mul_assoc]
  omega
theorem down_bound (s : ByteArray) (k j : Nat) (v : Int) (hv : val s (k + 1) < 18446744073709551616) (h0 : 0 ≤ v) (h : val s (k + 1) = val s (j + 1) + v * 128 ^ (j + 1)) :
    0 ≤ v ∧ v * 128 < 18446744073709551616 ∧ v * 128 + bat s j % 128 < 18446744073709551616 := by
  have ⟨h1, h2⟩ := down_next s k j v h0 h
  have h3 := val_nn s j
  have h4 : (1 : Int) ≤ 128 ^ j := by
    have : 0 < (128 : Nat) ^ j := Nat.pow_pos (by decide)
    exact_mod_cast this
  have h5 : (v * 128 + bat s j % 128) * 1 ≤ (v * 128 + bat s j % 128) * 128 ^ j := Int.mul_le_mul_of_nonneg_left h4 h1
  exact ⟨h0, by omega, by omega⟩
theorem lead_zero (s : ByteArray) : lead s 0 = 0 := rfl
theorem val_zero (s : ByteArray) : val s 0 = 0 := rfl
theorem lead_le (s : ByteArray) (f : Nat) : lead s f ≤ f ∧ lead s f ≤ s.size ∧ (lead s f = s.size ∨ lead s f = f ∨ bat s (lead s f) < 128) := by
  induction f with
  | zero => exact ⟨Nat.le_refl _, by simp [lead], .inr (.inl rfl)⟩
  | succ f ih =>
    rw [lead]
    by_cases h : lead s f = f ∧ f < s.size ∧ 128 ≤ bat s f
    · rw [if_pos h]; omega
    · rw [if_neg h]
      refine ⟨by omega, by omega, ?_⟩
      by_cases h1 : lead s f = f
      · by_cases h2 : f < s.size
        · right; right; rw [h1]
          have h3 : ¬ 128 ≤ bat s f := fun x => h ⟨h1, h2, x⟩
          omega
        · left; omega
      · rcases ih.2.2 with h3 | h3 | h3
        · exact .inl h3
        · omega
        · exact .inr (.inr h3)
theorem lead_go (s : ByteArray) (k : Nat) (h : lead s k = k) (h1 : k < s.size) (h2 : 128 ≤ bat s k) : lead s (k + 1) = k + 1 := by
  rw [lead, if_pos ⟨h, h1, h2⟩]
theorem lead_stop (s : ByteArray) (k : Nat) (h : lead s k = k) (h1 : ¬ (k < s.size ∧ 128 ≤ bat s k)) (f : Nat) (hf : k ≤ f) : lead s f = k := by
  induction f with
  | zero => obtain rfl : k = 0 := by omega
            exact h
  | succ f ih =>
    by_cases e : k = f + 1
    · rw [← e]; exact h
    · rw [lead, if_neg, ih (by omega)]
      rintro ⟨a, b, c⟩
      rw [ih (by omega)] at a
      subst a
      exact h1 ⟨b, c⟩
/-- What ReadNum answers: the number, how many bytes it has, the error. -/
def readNum (s : ByteArray) : Int × Int × Int :=
  if lead s 10 = 10 then (0, 0, 4)
  else if lead s 10 = s.size then (0, 0, 3)
  else if (bat s (lead s 10) = 0 ∧ 0 < lead s 10) ∨ (lead s 10 = 9 ∧ 1 < bat s 9) then (0, 0, 4)
  else (val s (lead s 10 + 1), (lead s 10 : Int) + 1, 0)
theorem readNum_ten (s : ByteArray) (h : lead s 10 = 10) : readNum s = (0, 0, 4) := by rw [readNum, if_pos h]
theorem readNum_short (s : ByteArray) (k : Nat) (hk : k < 10) (h : lead s k = k) (h1 : k = s.size) : readNum s = (0, 0, 3) := by
  have e := lead_stop s k h (by omega) 10 (by omega)
  rw [readNum, e, if_neg (by omega), if_pos h1]
theorem readNum_form (s : ByteArray) (k : Nat) (hk : k < 10) (h : lead s k = k) (h1 : k < s.size) (h2 : bat s k < 128) (h3 : (bat s k = 0 ∧ 0 < k) ∨ (k = 9 ∧ 1 < bat s 9)) : readNum s = (0, 0, 4) := by
  have e := lead_stop s k h (by omega) 10 (by omega)
  rw [readNum, e, if_neg (by omega), if_neg (by omega), if_pos h3]
theorem readNum_ok (s : ByteArray) (k : Nat) (hk : k < 10) (h : lead s k = k) (h1 : k < s.size) (h2 : bat s k < 128) (h3 : ¬ ((bat s k = 0 ∧ 0 < k) ∨ (k = 9 ∧ 1 < bat s 9))) : readNum s = (val s (k + 1), (k : Int) + 1, 0) := by
  have e := lead_stop s k h (by omega) 10 (by omega)
  rw [readNum, e, if_neg (by omega), if_neg (by omega), if_neg h3]
end Pack
attribute [irreducible] Pack.bat Pack.val Pack.lead Pack.readNum

def Ret3 (r : Int × Int × Int) (w : World) (e : Ending) (w' : World) : Prop := e = .returned (.tuple #[.int .u64 r.1, .int .i64 r.2.1, .int .i64 r.2.2]) ∧ w = w'

set_option maxRecDepth 100000 in
theorem readNum_any (s : ByteArray) (hs : s.size ≤ maxLen) (w : World) :
    Calls Try.prog 72 #[.string s] w (Ret3 (Pack.readNum s) w) := by
  unfold maxLen at hs
  go_enter Try.func72, Try.ntmps72
  go_wp2
  go_loop [5, 6] (fun n i => ∃ (k : Nat) (v : Int), k ≤ 10 ∧ k ≤ s.size ∧ i = .int .i64 k ∧ n = .int .u64 v ∧ Hid (Pack.lead s k = k) ∧ Hid (k ≤ 9 → v = Pack.val s k)) (fun n i => 10 - (intOf i).toNat)
  case atStart => exact ⟨0, 0, by omega, by omega, rfl, rfl, Lib.hid (Pack.lead_zero s), Lib.hid (fun _ => (Pack.val_zero s).symm)⟩
  case round =>
    obtain ⟨k, v, hk, hks, rfl, rfl, hlead, hval⟩ := hrel
    by_cases h10 : k < 10
    · by_cases hlt : k < s.size
      · have hb := Pack.bat_get s k hlt
        have hstep : Hid ((k = 9 → Pack.bat s 9 ≤ 1) → bits .or .u64 v (IntKind.u64.wrap (IntKind.u64.wrap (bits .and .u8 ((s[k]'hlt).toNat : Int) 127) * 2 ^ (7 * k))) = Pack.val s (k + 1)) := Lib.hid (fun h9 => by rw [hval.out (by omega)]; exact Pack.val_walk s k hlt (by omega) h9)
        by_cases hc : (s[k].toNat : Int) < 128
        · have hform := Lib.hid (fun h3 => Pack.readNum_form s k h10 hlead.out hlt (by rw [← hb]; exact hc) h3)
          have hok := Lib.hid (fun h3 => Pack.readNum_ok s k h10 hlead.out hlt (by rw [← hb]; exact hc) h3)
          have Hb := Lib.hid hb; clear hb
          by_cases h0 : (s[k].toNat : Int) ≤ 0
          · by_cases hk0 : 0 < k
            · have hr := hform.out (.inl ⟨by rw [← Hb.out]; omega, hk0⟩)
              have Hr := Lib.hid hr; clear hr
              go_wp2
              go_ret3
              exact ⟨by rw [Hr.out]; rfl, rfl⟩
            · have Hr := Lib.hid (hok.out (by omega))
              have hs1 := hstep.out (by omega)
              rw [show ((s[k]'hlt).toNat : Int) = 0 by omega] at hs1
              have Hs := Lib.hid hs1; clear hs1
              go_wp2
              go_ret3
              exact ⟨by rw [Hr.out, ← Hs.out]; rfl, rfl⟩
          · by_cases hk9 : k < 9
            · have Hr := Lib.hid (hok.out (by have := Hb.out; omega))
              have Hs := Lib.hid (hstep.out (by omega))
              go_wp2
              go_ret3
              exact ⟨by rw [Hr.out, ← Hs.out]; rfl, rfl⟩
            · obtain rfl : k = 9 := by omega
              by_cases h1 : (s[9].toNat : Int) ≤ 1
              · have Hr := Lib.hid (hok.out (by have := Hb.out; omega))
                have Hs := Lib.hid (hstep.out (by have := Hb.out; omega))
                go_wp2
                go_ret3
                exact ⟨by rw [Hr.out, ← Hs.out]; rfl, rfl⟩
              · have Hr := Lib.hid (hform.out (by have := Hb.out; omega))
                go_wp2
                go_ret3
                exact ⟨by rw [Hr.out]; rfl, rfl⟩
        · have hl := Lib.hid (Pack.lead_go s k hlead.out hlt (by rw [← hb]; omega))
          clear hb
          go_wp2
          go_round
          case rel => exact ⟨k + 1, _, by omega, by omega, by go_num, rfl, hl, Lib.hid (fun h => hstep.out (by omega))⟩
          case measure => simp [intOf]; omega
      · obtain rfl : k = s.size := by omega
        have Hr := Lib.hid (Pack.readNum_short s s.size h10 hlead.out rfl)
        go_wp2
        go_ret3
        exact ⟨by rw [Hr.out]; rfl, rfl⟩
    · obtain rfl : k = 10 := by omega
      have Hr := Lib.hid (Pack.readNum_ten s hlead.out)
      go_wp2
      all_goals go_ret3
      all_goals exact ⟨by rw [Hr.out]; rfl, rfl⟩

set_option maxRecDepth 100000 in
theorem rreadNum_any (s : ByteArray) (hs : s.size ≤ maxLen) (w : World) :
    Calls Try.prog 73 #[.string s] w (Ret3 (Pack.readNum s) w) := by
  unfold maxLen at hs
  go_enter Try.func73, Try.ntmps73
  go_wp2
  go_loop [5] (fun i => ∃ (k : Nat), k ≤ 10 ∧ k ≤ s.size ∧ i = .int .i64 k ∧ Hid (Pack.lead s k = k)) (fun i => 10 - (intOf i).toNat)
  case atStart => exact ⟨0, by omega, by omega, rfl, Lib.hid (Pack.lead_zero s)⟩
  case round =>
    obtain ⟨k, hk, hks, rfl, hlead⟩ := hrel
    by_cases h10 : k < 10
    · by_cases hlt : k < s.size
      · have hb := Pack.bat_get s k hlt
        by_cases hc : (s[k].toNat : Int) < 128
        · have hform := Lib.hid (fun h3 => Pack.readNum_form s k h10 hlead.out hlt (by rw [← hb]; exact hc) h3)
          have hok := Lib.hid (fun h3 => Pack.readNum_ok s k h10 hlead.out hlt (by rw [← hb]; exact hc) h3)
          have Hb := Lib.hid hb; clear hb
          by_cases hbad : (s[k].toNat : Int) ≤ 0 ∧ 0 < k
          · obtain ⟨h0, hk0⟩ := hbad
            have Hr := Lib.hid (hform.out (.inl ⟨by rw [← Hb.out]; omega, hk0⟩))
            go_wp2
            go_ret3
            exact ⟨by rw [Hr.out]; rfl, rfl⟩
          · by_cases hbad9 : 9 ≤ k ∧ 1 < (s[k].toNat : Int)
            · obtain ⟨h9, h1⟩ := hbad9
              obtain rfl : k = 9 := by omega
              have Hr := Lib.hid (hform.out (.inr ⟨rfl, by rw [← Hb.out]; exact h1⟩))
              go_wp2
              go_ret3
              exact ⟨by rw [Hr.out]; rfl, rfl⟩
            · have h9b : k = 9 → Pack.bat s 9 = Pack.bat s k := by rintro rfl; rfl
              have Hr := Lib.hid (hok.out (by have := Hb.out; omega))
              have hlt2 := Pack.val_room s k (by have := Hb.out; omega)
              clear h9b
              have Hv := Lib.hid hlt2; clear hlt2
              have hcs : ((s[k].toNat : Int) ≤ 0 ∧ k < 9) ∨ (0 < (s[k].toNat : Int) ∧ k < 9) ∨ (0 < (s[k].toNat : Int) ∧ 9 ≤ k ∧ (s[k].toNat : Int) ≤ 1) := by omega
              have hk0 : (s[k].toNat : Int) ≤ 0 → ¬ 0 < k := fun a b => hbad ⟨a, b⟩
              clear hbad hbad9 hform hok
              rcases hcs with ⟨h1, h2⟩ | ⟨h1, h2⟩ | ⟨h1, h2, h3⟩
              · have hk1 : k ≤ 0 := by have := hk0 h1; omega
                clear hk0
                go_wp2
                go_loop [6, 7] (fun n i => ∃ (m : Nat) (v : Int), m ≤ k + 1 ∧ i = .int .i64 ((m : Int) - 1) ∧ n = .int .u64 v ∧ Hid (0 ≤ v ∧ Pack.val s (k + 1) = Pack.val s m + v * 128 ^ m)) (fun n i => (intOf i + 1).toNat)
                case atStart => exact ⟨k + 1, 0, by omega, int_eq (by omega), rfl, Lib.hid ⟨by decide, by simp⟩⟩
                case round =>
                  obtain ⟨m, v, hm, rfl, rfl, hv⟩ := hrel
                  cases m with
                  | zero =>
                    have hf : Hid (Pack.val s (k + 1) = v) := Lib.hid (by have := hv.out.2; rw [Pack.val_zero] at this; simpa using this)
                    go_wp2
                    go_ret3
                    exact ⟨by rw [Hr.out, hf.out]; rfl, rfl⟩
                  | succ j =>
                    have hjs : j < s.size := by omega
                    have hbnd := Pack.down_bound s k j v Hv.out hv.out.1 hv.out.2
                    obtain ⟨hb0, hb1, hb2⟩ := hbnd
                    have hnext := Lib.hid (Pack.down_next s k j v hv.out.1 hv.out.2)
                    have hbj := Pack.bat_get s j hjs
                    rw [← hbj] at hb2
                    have Hbj := Lib.hid hbj; clear hbj
                    rw [show ((j + 1 : Nat) : Int) - 1 = j by omega]
                    go_wp2
                    go_round
                    case rel => exact ⟨j, _, by omega, rfl, rfl, Lib.hid (by rw [Hbj.out]; exact hnext.out)⟩
                    case measure => simp [intOf]
              · clear hk0
                go_wp2
                go_loop [6, 7] (fun n i => ∃ (m : Nat) (v : Int), m ≤ k + 1 ∧ i = .int .i64 ((m : Int) - 1) ∧ n = .int .u64 v ∧ Hid (0 ≤ v ∧ Pack.val s (k + 1) = Pack.val s m + v * 128 ^ m)) (fun n i => (intOf i + 1).toNat)
                case atStart => exact ⟨k + 1, 0, by omega, int_eq (by omega), rfl, Lib.hid ⟨by decide, by simp⟩⟩
                case round =>
                  obtain ⟨m, v, hm, rfl, rfl, hv⟩ := hrel
                  cases m with
                  | zero =>
                    have hf : Hid (Pack.val s (k + 1) = v) := Lib.hid (by have := hv.out.2; rw [Pack.val_zero] at this; simpa using this)
                    go_wp2
                    go_ret3
                    exact ⟨by rw [Hr.out, hf.out]; rfl, rfl⟩
                  | succ j =>
                    have hjs : j < s.size := by omega
                    have hbnd := Pack.down_bound s k j v Hv.out hv.out.1 hv.out.2
                    obtain ⟨hb0, hb1, hb2⟩ := hbnd
                    have hnext := Lib.hid (Pack.down_next s k j v hv.out.1 hv.out.2)
                    have hbj := Pack.bat_get s j hjs
                    rw [← hbj] at hb2
                    have Hbj := Lib.hid hbj; clear hbj
                    rw [show ((j + 1 : Nat) : Int) - 1 = j by omega]
                    go_wp2
                    go_round
                    case rel => exact ⟨j, _, by omega, rfl, rfl, Lib.hid (by rw [Hbj.out]; exact hnext.out)⟩
                    case measure => simp [intOf]
              · clear hk0
                obtain rfl : k = 9 := by omega
                go_wp2
                go_loop [6, 7] (fun n i => ∃ (m : Nat) (v : Int), m ≤ 9 + 1 ∧ i = .int .i64 ((m : Int) - 1) ∧ n = .int .u64 v ∧ Hid (0 ≤ v ∧ Pack.val s (9 + 1) = Pack.val s m + v * 128 ^ m)) (fun n i => (intOf i + 1).toNat)
                case atStart => exact ⟨9 + 1, 0, by omega, rfl, rfl, Lib.hid ⟨by decide, by simp⟩⟩
                case round =>
                  obtain ⟨m, v, hm, rfl, rfl, hv⟩ := hrel
                  cases m with
                  | zero =>
                    have hf : Hid (Pack.val s (9 + 1) = v) := Lib.hid (by have := hv.out.2; rw [Pack.val_zero] at this; simpa using this)
                    go_wp2
                    go_ret3
                    exact ⟨by rw [Hr.out, hf.out]; rfl, rfl⟩
                  | succ j =>
                    have hjs : j < s.size := by omega
                    have hbnd := Pack.down_bound s 9 j v Hv.out hv.out.1 hv.out.2
                    obtain ⟨hb0, hb1, hb2⟩ := hbnd
                    have hnext := Lib.hid (Pack.down_next s 9 j v hv.out.1 hv.out.2)
                    have hbj := Pack.bat_get s j hjs
                    rw [← hbj] at hb2
                    have Hbj := Lib.hid hbj; clear hbj
                    rw [show ((j + 1 : Nat) : Int) - 1 = j by omega]
                    go_wp2
                    go_round
                    case rel => exact ⟨j, _, by omega, rfl, rfl, Lib.hid (by rw [Hbj.out]; exact hnext.out)⟩
                    case measure => simp [intOf]
        · have hl := Lib.hid (Pack.lead_go s k hlead.out hlt (by rw [← hb]; omega))
          clear hb
          go_wp2
          go_round
          case rel => exact ⟨k + 1, by omega, by omega, by go_num, hl⟩
          case measure => simp [intOf]; omega
      · obtain rfl : k = s.size := by omega
        have Hr := Lib.hid (Pack.readNum_short s s.size h10 hlead.out rfl)
        go_wp2
        go_ret3
        exact ⟨by rw [Hr.out]; rfl, rfl⟩
    · obtain rfl : k = 10 := by omega
      have Hr := Lib.hid (Pack.readNum_ten s hlead.out)
      go_wp2
      all_goals go_ret3
      all_goals exact ⟨by rw [Hr.out]; rfl, rfl⟩
end Go.Proofs.Ytkgpipokfoadiaa
