/-
  Count of package class, over math/bits.OnesCount64.
-/
import Derived.Test.YtlgabpcddldelaaDoorCsPop
import Derived.Test.YtlgabpcddldelaaDoorClsBytes
namespace Go.Proofs.YtlgabpcddldelaaDoor
set_option linter.unusedVariables false
set_option linter.unusedSimpArgs false
open Go.ChangeShapes Go.WideShapes Go.ChangeAt Go.RowKit

namespace Cs
theorem band (a b : Nat) (c : Nat) (ha : a < 18446744073709551616) (hb : b < 18446744073709551616) (h : a &&& b = c) : bits .and .u64 (a : Int) (b : Int) = (c : Int) := by rw [bits_and_u64_nat a b ha hb, h]
theorem wadd (a b c : Nat) (h : a + b = c) (hc : c < 18446744073709551616) : IntKind.u64.wrap ((a : Int) + (b : Int)) = (c : Int) := by rw [IntKind.wrap_u64]; omega
theorem band127 (a : Nat) (ha : a < 9223372036854775808) : bits .and .i64 (a : Int) 127 = ((a % 128 : Nat) : Int) := by
  have h1 : (BitVec.ofInt 64 (a : Int)).toNat = a := by
    rw [BitVec.ofInt_natCast, BitVec.toNat_ofNat]; exact Nat.mod_eq_of_lt (by omega)
  have h2 : (BitVec.ofInt 64 127).toNat = 2 ^ 7 - 1 := by decide
  show IntKind.i64.wrap ((BitVec.ofInt 64 (a : Int) &&& BitVec.ofInt 64 127).toNat : Nat) = _
  rw [BitVec.toNat_and, h1, h2, Nat.and_two_pow_sub_one_eq_mod, IntKind.wrap_i64]
  omega
end Cs

set_option maxRecDepth 100000 in
set_option maxHeartbeats 1000000 in
theorem ones_core (x a1 b1 x1 a2 b2 x2 y2 x3 x4 x5 x6 n : Nat) (w : World)
    (h1 : bits .and .u64 ((x : Int) / 2) 6148914691236517205 = (a1 : Int)) (h2 : bits .and .u64 (x : Int) 6148914691236517205 = (b1 : Int)) (h3 : IntKind.u64.wrap ((a1 : Int) + (b1 : Int)) = (x1 : Int))
    (h4 : bits .and .u64 ((x1 : Int) / 4) 3689348814741910323 = (a2 : Int)) (h5 : bits .and .u64 (x1 : Int) 3689348814741910323 = (b2 : Int)) (h6 : IntKind.u64.wrap ((a2 : Int) + (b2 : Int)) = (x2 : Int))
    (h7 : IntKind.u64.wrap ((x2 : Int) / 16 + (x2 : Int)) = (y2 : Int)) (h8 : bits .and .u64 (y2 : Int) 1085102592571150095 = (x3 : Int))
    (h9 : IntKind.u64.wrap ((x3 : Int) + (x3 : Int) / 256) = (x4 : Int)) (h10 : IntKind.u64.wrap ((x4 : Int) + (x4 : Int) / 65536) = (x5 : Int)) (h11 : IntKind.u64.wrap ((x5 : Int) + (x5 : Int) / 4294967296) = (x6 : Int))
    (h12 : IntKind.i64.wrap (x6 : Int) = (x6 : Int)) (h13 : bits .and .i64 (x6 : Int) 127 = (n : Int)) :
    Calls Tryd.prog 41 #[.int .u64 x] w fun e w' => e = .returned (.int .i64 n) ∧ w = w' := by
  go_enter Tryd.func41, Tryd.ntmps41
  go_wp2
  go_ret
  exact ⟨rfl, rfl⟩

theorem Cs.lanes_third : ∀ n x, 3 * Cs.lanes (fun e => Cs.s2 (Cs.s1 e)) n x + 1 ≤ 256 ^ n
  | 0, x => by simp [Cs.lanes]
  | n + 1, x => by
    have h1 := Cs.s2_ok (x % 256) (Nat.mod_lt _ (by decide))
    have h2 := Cs.lanes_third n (x / 256)
    simp only [Cs.lanes]
    rw [Nat.pow_succ]
    omega

theorem ones_any (x : Nat) (hx : x < 18446744073709551616) (w : World) :
    Calls Tryd.prog 41 #[.int .u64 x] w fun e w' => e = .returned (.int .i64 ((Cs.bitsL x).length : Nat)) ∧ w = w' := by
  have l1 := Cs.lanes_lt Cs.s1_lt 8 x
  have l2 := Cs.lanes_third 8 x
  have l3 := Cs.lanes_lt (h := Cs.p8) (fun e _ => Nat.lt_of_le_of_lt (Cs.p8_le e) (by decide)) 8 x
  rw [show (256 : Nat) ^ 8 = 18446744073709551616 by decide] at l1 l2 l3
  have p1 := Cs.pop1 x
  have p2 := Cs.pop2 x
  have p3 := Cs.pop3 x
  obtain ⟨x4, hx4⟩ : ∃ y, y = Cs.lanes Cs.p8 8 x + Cs.lanes Cs.p8 8 x / 256 := ⟨_, rfl⟩
  obtain ⟨x5, hx5⟩ : ∃ z, z = x4 + x4 / 65536 := ⟨_, rfl⟩
  obtain ⟨x6, hx6⟩ : ∃ v, v = x5 + x5 / 4294967296 := ⟨_, rfl⟩
  obtain ⟨q1, q2, q3, q4⟩ := Cs.pop_all x hx x4 x5 x6 hx4 hx5 hx6
  rw [← q4]
  generalize Cs.lanes Cs.s1 8 x = x1 at *
  generalize Cs.lanes (fun e => Cs.s2 (Cs.s1 e)) 8 x = x2 at *
  generalize Cs.lanes Cs.p8 8 x = x3 at *
  refine ones_core x (x / 2 &&& 6148914691236517205) (x &&& 6148914691236517205) x1 (x1 / 4 &&& 3689348814741910323) (x1 &&& 3689348814741910323) x2 (x2 / 16 + x2) x3 x4 x5 x6 (x6 % 128) w ?_ ?_ ?_ ?_ ?_ ?_ ?_ ?_ ?_ ?_ ?_ ?_ ?_
  · exact Cs.band (x / 2) 6148914691236517205 _ (by omega) (by decide) rfl
  · exact Cs.band x 6148914691236517205 _ hx (by decide) rfl
  · exact Cs.wadd _ _ _ p1 l1
  · exact Cs.band (x1 / 4) 3689348814741910323 _ (by omega) (by decide) rfl
  · exact Cs.band x1 3689348814741910323 _ l1 (by decide) rfl
  · exact Cs.wadd _ _ _ p2 (by omega)
  · exact Cs.wadd (x2 / 16) _ _ rfl (by omega)
  · exact Cs.band (x2 / 16 + x2) 1085102592571150095 _ (by omega) (by decide) p3
  · exact Cs.wadd _ (x3 / 256) _ hx4.symm (by omega)
  · exact Cs.wadd _ (x4 / 65536) _ hx5.symm (by omega)
  · exact Cs.wadd _ (x5 / 4294967296) _ hx6.symm (by omega)
  · rw [IntKind.wrap_i64]; omega
  · exact Cs.band127 _ q1

set_option maxRecDepth 100000 in
set_option maxHeartbeats 1600000 in
theorem clCount_any (ws : List Nat) (hws : Dm.Ok4 ws) (w : World) :
    Calls Tryd.prog 20 #[Cs.clV ws] w fun e w' => e = .returned (.int .i64 ((Cs.bytesL ws 4).length : Nat)) ∧ Below w.heap.size w w' := by
  have HW := Lib.hid hws
  have HST := Lib.hid ((St.init w).alloc (Cs.clA ws) 24)
  have HS4 := Lib.hid (Cs.clA_size hws)
  obtain ⟨Z, hZ⟩ : ∃ Z, (Cs.bytesL ws 4).length = Z := ⟨_, rfl⟩
  rw [hZ]
  have HZ := Lib.hid hZ
  clear hws hZ
  unfold Cs.clV
  go_enter Tryd.func20, Tryd.ntmps20
  go_wp2_with (refine St.rowIn rfl 24 (.tmp 1) rfl w.heap.size rfl _ HST.out 0 rfl Tryd.underlying24 rfl (by rw [HS4.out]; exact Cs.clInfo) ?_)
  go_loopg [3, 7] 4 (fun gz v3 v7 wr => ∃ (i : Nat), i ≤ 4 ∧ gz = 4 - i ∧ v7 = .int .i64 i ∧ v3 = .int .i64 ((Cs.bytesL ws i).length : Nat) ∧ St w wr [aCel w.heap.size 24 (Cs.clA ws)])
  case atStart => exact ⟨0, by omega, by omega, rfl, rfl, HST.out⟩
  case round =>
    clear HST
    obtain ⟨i, hi, hgz, rfl, rfl, hst⟩ := hrel
    have HGZ := Lib.hid hgz
    clear hgz
    by_cases hlt : i < 4
    · have hltI : (i : Int) < 4 := by omega
      have hidx : ∀ W, (Instr.index 24 (.agg (Cs.clA ws)) (.int .i64 i)).run Tryd.prog W = .ok (.int .u64 (ws.getD i 0 : Nat)) W := fun W => Cs.run_index Tryd.underlying24 Tryd.underlying22 (by kernel_rfl) ws HW.out.len i hlt W
      have HON := Lib.hid (ones_any (ws.getD i 0) (HW.out.lt i) wr)
      have hbs := congrArg List.length (Cs.bytes_succ ws i)
      rw [List.length_append, List.length_map] at hbs
      have h1 := Cs.bytes_len ws i
      have h2 := Cs.bits_len (ws.getD i 0)
      generalize ws.getD i 0 = x0 at *
      generalize (Cs.bytesL ws i).length = A at *
      generalize (Cs.bitsL x0).length = C at *
      have HBS := Lib.hid hbs
      have hA : (A : Int) ≤ 256 := by omega
      have hC : (C : Int) ≤ 64 := by omega
      have HST := Lib.hid hst
      clear hst hbs h1 h2
      go_wp2_with (fail)
      go_at_call 41
      refine (HON.out).mono ?_
      rintro e w6 ⟨rfl, rfl⟩
      go_wp2
      go_roundg (4 - (i + 1))
      case measure => have := HGZ.out; omega
      case rel => exact ⟨i + 1, by omega, rfl, by go_num, congrArg (Value.int .i64) (by have := HBS.out; omega), HST.out⟩
    · have hie : i = 4 := by omega
      have hge : ¬ ((i : Int) < 4) := by omega
      rw [hie, HZ.out]
      have HST := Lib.hid hst
      clear hst hie
      go_wp2
      go_ret
      exact ⟨rfl, HST.out.bel⟩
end Go.Proofs.YtlgabpcddldelaaDoor
