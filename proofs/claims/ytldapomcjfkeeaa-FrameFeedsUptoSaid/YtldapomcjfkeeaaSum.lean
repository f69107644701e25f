/-
  Sum and More of package sum, Sum of the reference: what they compute, and that the two agree.
-/
import Derived.Test.YtldapomcjfkeeaaMem
namespace Go.Proofs.Ytldapomcjfkeeaa
open Go.ChangeShapes Go.WideShapes Go.ChangeAt Go.RowKit

namespace Crc
def istep (v : Int) : Int := bits BinOp.xor IntKind.u32 (v / 2) (bits BinOp.and IntKind.u32 3988292384 (-bits BinOp.and IntKind.u32 v 1 % 4294967296))
def iter (f : Int → Int) : Nat → Int → Int
  | 0, r => r
  | n + 1, r => f (iter f n r)
def ibyte (r : Int) (c : UInt8) : Int := iter istep 8 (bits BinOp.xor IntKind.u32 r ((c.toNat : Int) % 4294967296))
def iflip (r : Int) : Int := bits BinOp.xor IntKind.u32 IntKind.u32.max r
def more (n : Int) (l : List UInt8) : Int := iflip (l.foldl ibyte (iflip n))

theorem take_snoc (s : ByteArray) (k : Nat) (h : k < s.size) : s.data.toList.take (k + 1) = s.data.toList.take k ++ [s[k]] := by
  rw [List.take_succ_eq_append_getElem (by simpa using h)]; rfl
def In (v : Int) : Prop := 0 ≤ v ∧ v < 4294967296
theorem xor_in (a b : Int) (ha : In a) (hb : In b) : In (bits BinOp.xor IntKind.u32 a b) := by
  obtain ⟨a0, a1⟩ := ha; obtain ⟨b0, b1⟩ := hb
  rw [u32_xor a b a0 a1 b0 b1]
  have : a.toNat ^^^ b.toNat < 2 ^ 32 := Nat.xor_lt_two_pow (n := 32) (by omega) (by omega)
  exact ⟨by omega, by omega⟩
theorem and_in (a b : Int) (ha : In a) (hb : In b) : In (bits BinOp.and IntKind.u32 a b) := by
  obtain ⟨a0, a1⟩ := ha; obtain ⟨b0, b1⟩ := hb
  rw [u32_and a b a0 a1 b0 b1]
  have : a.toNat &&& b.toNat < 2 ^ 32 := Nat.and_lt_two_pow (n := 32) _ (by omega)
  exact ⟨by omega, by omega⟩
theorem mod_in (v : Int) : In (v % 4294967296) := ⟨by omega, by omega⟩
theorem istep_in (v : Int) (h : In v) : In (istep v) := by
  have ⟨a, b⟩ := h
  exact xor_in _ _ ⟨by omega, by omega⟩ (and_in _ _ ⟨by decide, by decide⟩ (mod_in _))
theorem iter_in (n : Nat) (v : Int) (h : In v) : In (iter istep n v) := by
  induction n with
  | zero => exact h
  | succ n ih => exact istep_in _ ih
theorem start_in (v : Int) (c : UInt8) (h : In v) : In (bits BinOp.xor IntKind.u32 v ((c.toNat : Int) % 4294967296)) := xor_in _ _ h (mod_in _)
theorem ibyte_in (v : Int) (c : UInt8) (h : In v) : In (ibyte v c) := iter_in _ _ (start_in _ _ h)
theorem fold_in (l : List UInt8) : ∀ r, In r → In (l.foldl ibyte r) := by
  induction l with
  | nil => intro r h; exact h
  | cons c l ih => intro r h; exact ih _ (ibyte_in _ _ h)
theorem iflip_in (r : Int) (h : In r) : In (iflip r) := xor_in _ _ ⟨by decide, by decide⟩ h
theorem more_in (n : Int) (l : List UInt8) (h : In n) : In (more n l) := iflip_in _ (fold_in _ _ (iflip_in _ h))
theorem iter_zero (x : Int) : iter istep 0 x = x := rfl
theorem iter_succ (j : Nat) (x : Int) : iter istep (j + 1) x = istep (iter istep j x) := rfl
theorem fold_next (l : List UInt8) (s : ByteArray) (k : Nat) (v n : Int) (hk : k < s.size) (hl : s.data.toList = l) (hv : (l.take k).foldl ibyte (iflip n) = v) :
    (l.take (k + 1)).foldl ibyte (iflip n) = iter istep 8 (bits BinOp.xor IntKind.u32 v ((s[k].toNat : Int) % 4294967296)) := by
  rw [← hl, take_snoc s k hk, hl, List.foldl_append, hv]; rfl
theorem more_eq (n v : Int) (l : List UInt8) (h : v = l.foldl ibyte (iflip n)) : iflip v = more n l := by rw [h]; rfl
end Crc


theorem more_any (n : Int) (s : ByteArray) (hn : Crc.In n) (hs : s.size ≤ maxLen) (w : World) :
    Calls Try.prog 162 #[.int .u32 n, .string s] w fun e w' => e = .returned (.int .u32 (Crc.more n s.data.toList)) ∧ w = w' := by
  unfold maxLen at hs
  have Hn := Lib.hid hn
  obtain ⟨hn0, hn1⟩ := hn
  generalize hl : s.data.toList = l
  have Hl := Lib.hid hl; clear hl
  go_enter Try.func162, Try.ntmps162
  go_wp2
  go_loop [5, 6, 7] (fun r i o => ∃ (k : Nat), k ≤ s.size ∧ i = .int .i64 k ∧ r = .int .u32 ((l.take k).foldl Crc.ibyte (Crc.iflip n))) (fun r i o => s.size - (intOf i).toNat)
  case atStart => exact ⟨0, by omega, rfl, int_eq (by simp [Crc.iflip])⟩
  case round =>
    obtain ⟨k, hk, rfl, rfl⟩ := hrel
    have hvin := Crc.fold_in (l.take k) (Crc.iflip n) (Crc.iflip_in _ Hn.out)
    generalize hv : (l.take k).foldl Crc.ibyte (Crc.iflip n) = v at *
    have HV := Lib.hid hv; clear hv
    by_cases hlt : k < s.size
    · have hx := Crc.start_in v s[k] hvin
      have hnext := Lib.hid (Crc.fold_next l s k v n hlt Hl.out HV.out)
      have Hx := Lib.hid hx; clear hx
      obtain ⟨hv0, hv1⟩ := hvin
      go_wp2
      generalize bits BinOp.xor IntKind.u32 v ((s[k].toNat : Int) % 4294967296) = x at *
      go_loop [5, 7, 22] (fun r o i => ∃ (j : Nat), j ≤ 8 ∧ i = .int .i64 j ∧ r = .int .u32 (Crc.iter Crc.istep j x)) (fun r o i => 8 - (intOf i).toNat)
      case atStart => exact ⟨0, by omega, rfl, rfl⟩
      case round =>
        obtain ⟨j, hj, rfl, rfl⟩ := hrel
        by_cases hlj : j < 8
        · obtain ⟨hy0, hy1⟩ := Crc.iter_in j x Hx.out
          go_wp2
          go_round
          case rel => exact ⟨j + 1, by omega, by go_num, int_eq (by rw [Crc.iter_succ]; rfl)⟩
          case measure => simp [intOf]; omega
        · have : j = 8 := by omega
          subst this
          go_wp2
          go_round
          case rel => exact ⟨k + 1, by omega, by go_num, int_eq (by rw [hnext.out])⟩
          case measure => simp [intOf]; omega
    · have : k = s.size := by omega
      subst this
      have hfin : Hid (v = l.foldl Crc.ibyte (Crc.iflip n)) := Lib.hid (by
        rw [← HV.out, ← Hl.out, List.take_of_length_le (by simp)])
      obtain ⟨hv0, hv1⟩ := hvin
      go_wp2
      go_ret
      exact ⟨ret_int (by rw [← Crc.more_eq n v l hfin.out]; rfl), rfl⟩
attribute [irreducible] Crc.more
end Go.Proofs.Ytldapomcjfkeeaa
