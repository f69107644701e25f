/-
  Bytes of package class, over math/bits.TrailingZeros64.
-/
import Derived.Test.YtlgabpcddldelaaDoorCsBits
import Derived.Test.YtlgabpcddldelaaDoorTz
import Derived.Test.YtlgabpcddldelaaDoorClsNot
import Derived.Test.YtlgabpcddldelaaDoorConvOwn
namespace Go.Proofs.YtlgabpcddldelaaDoor
set_option linter.unusedVariables false
set_option linter.unusedSimpArgs false
open Go.ChangeShapes Go.WideShapes Go.ChangeAt Go.RowKit

namespace Tz
theorem key (x a : Nat) (hx : x < 18446744073709551616) (hx0 : x ≠ 0) (hlow : x &&& (18446744073709551616 - x) = a) :
    IntKind.u64.wrap (bits BinOp.and IntKind.u64 (x : Int) (IntKind.u64.wrap (-(x : Int))) * 285870213051353865) / 288230376151711744 = ((a * 285870213051353865 % 18446744073709551616 / 288230376151711744 : Nat) : Int) := by
  have e1 : IntKind.u64.wrap (-(x : Int)) = ((18446744073709551616 - x : Nat) : Int) := by rw [IntKind.wrap_u64]; omega
  rw [e1, bits_and_u64_nat x _ hx (by omega), hlow, IntKind.wrap_u64]
  omega
end Tz

set_option maxHeartbeats 1000000 in
theorem tz64_core (x k idx : Nat) (w : World) (hx0 : ((x : Int) == 0) = false)
    (key : IntKind.u64.wrap (bits BinOp.and IntKind.u64 (x : Int) (IntKind.u64.wrap (-(x : Int))) * 285870213051353865) / 288230376151711744 = (idx : Int))
    (hi : idx < 64) (hk : k < 64) (hcell : w.cell? ⟨0, idx, none⟩ = some (.int .u8 k)) :
    Calls Tryd.prog 42 #[.int .u64 x] w fun e w' => e = .returned (.int .i64 k) ∧ w = w' := by
  go_enter Tryd.func42, Tryd.ntmps42
  go_wp2_with (simp only [key])
  go_ret
  exact ⟨rfl, rfl⟩
theorem tz64_any (x : Nat) (hx : x < 18446744073709551616) (hx0 : x ≠ 0) (w : World) (hT : Tz.Tab w) :
    Calls Tryd.prog 42 #[.int .u64 x] w fun e w' => e = .returned (.int .i64 (Lib.ctz 64 x)) ∧ w = w' := by
  obtain ⟨hlow, hk⟩ := Lib.lowest_bit 64 x hx0 hx
  obtain ⟨hi, htab⟩ := Lib.deBruijn64_at _ hk
  have c0 := hT _ hi
  rw [htab] at c0
  exact tz64_core x _ _ w (by rw [beq_eq_false_iff_ne]; omega) (Tz.key x _ hx hx0 hlow) hi hk c0

namespace Cs
theorem run_index {P : Program} {t e : TypeId} {n : Nat} (ht : P.underlying t = some (.array n e)) (he : P.underlying e = some (.int .u64)) (hs : (P.info? e).map (·.size) = some 1)
    (ws : List Nat) (hl : ws.length = n) (i : Nat) (hi : i < n) (w : World) : (Instr.index t (.agg (clA ws)) (.int .i64 i)).run P w = .ok (.int .u64 (ws.getD i 0 : Nat)) w := by
  cases hq : P.info? e with
  | none => simp [hq] at hs
  | some inf =>
    have hs1 : inf.size = 1 := by simpa [hq] using hs
    have hil : i < ws.length := by omega
    simp [Instr.index, asIntOf, run_underlying ht, run_underlying he, sizeOf, typeInfo, hq, hs1, part, isAgg, hi, hil, clA, wV]
def bI (k : Nat) : Int := k
theorem or64 (i k : Nat) (hk : k < 64) (hi : i < 4) : bits .or .i64 ((64 * i : Nat) : Int) (k : Int) = ((64 * i + k : Nat) : Int) := by
  have h1 : (BitVec.ofInt 64 ((64 * i : Nat) : Int)).toNat = 64 * i := by
    rw [BitVec.ofInt_natCast, BitVec.toNat_ofNat]; exact Nat.mod_eq_of_lt (by omega)
  have h2 : (BitVec.ofInt 64 (k : Int)).toNat = k := by
    rw [BitVec.ofInt_natCast, BitVec.toNat_ofNat]; exact Nat.mod_eq_of_lt (by omega)
  show IntKind.i64.wrap ((BitVec.ofInt 64 ((64 * i : Nat) : Int) ||| BitVec.ofInt 64 (k : Int)).toNat : Nat) = _
  rw [BitVec.toNat_or, h1, h2, show 64 * i = 2 ^ 6 * i by rfl, ← Nat.two_pow_add_eq_or_of_lt (by omega : k < 2 ^ 6), IntKind.wrap_i64]
  omega
end Cs

set_option maxRecDepth 100000 in
set_option maxHeartbeats 1600000 in
theorem clBytes_any (ws : List Nat) (hws : Dm.Ok4 ws) (w : World) (hT : Tz.Tab w) :
    Calls Tryd.prog 21 #[Cs.clV ws] w fun e w' => e = .returned (.string (strOfNums ((Cs.bytesL ws 4).map Cs.bI))) ∧ Below w.heap.size w w' := by
  have HT := Lib.hid hT
  have HW := Lib.hid hws
  have HST := Lib.hid (((St.init w).alloc (Cs.clA ws) 24).nilOwn 5 1)
  have HS4 := Lib.hid (Cs.clA_size hws)
  obtain ⟨Z, hZ⟩ : ∃ Z, strOfNums ((Cs.bytesL ws 4).map Cs.bI) = Z := ⟨_, rfl⟩
  rw [hZ]
  have HZ := Lib.hid hZ
  clear hT hws hZ
  unfold Cs.clV
  go_enter Tryd.func21, Tryd.ntmps21
  go_wp2_with (refine St.rowIn rfl 24 (.tmp 1) rfl w.heap.size rfl _ HST.out 1 rfl Tryd.underlying24 rfl (by rw [HS4.out]; exact Cs.clInfo) ?_)
  go_loopg [3, 7] 4 (fun gz v3 v7 wr => ∃ (i : Nat) (vo : Value), i ≤ 4 ∧ gz = 4 - i ∧ v7 = .int .i64 i ∧ vo = v3 ∧ St w wr [aOwn 5 1 vo (((Cs.bytesL ws i).map Cs.bI).map (Value.int .u8)), aCel w.heap.size 24 (Cs.clA ws)])
  case atStart => exact ⟨0, _, by omega, by omega, rfl, rfl, HST.out⟩
  case round =>
    clear HST
    obtain ⟨i, vo, hi, hgz, rfl, rfl, hst⟩ := hrel
    have HGZ := Lib.hid hgz
    clear hgz
    by_cases hlt : i < 4
    · have hltI : (i : Int) < 4 := by omega
      have hidx : ∀ W, (Instr.index 24 (.agg (Cs.clA ws)) (.int .i64 i)).run Tryd.prog W = .ok (.int .u64 (ws.getD i 0 : Nat)) W := fun W => Cs.run_index Tryd.underlying24 Tryd.underlying22 (by kernel_rfl) ws HW.out.len i hlt W
      have hx0 := HW.out.lt i
      have HBS := Lib.hid (Cs.bytes_succ ws i)
      generalize ws.getD i 0 = x0 at *
      have HX0 := Lib.hid hx0
      have HST := Lib.hid hst
      clear hx0 hst
      go_wp2_with (fail)
      go_loopg [3, 5] x0 (fun gz v3 v5 wr => ∃ (x : Nat) (pre : List Nat) (vo : Value), x ≤ x0 ∧ gz = x ∧ v5 = .int .u64 x ∧ vo = v3 ∧ Hid (pre ++ Cs.bitsL x = Cs.bitsL x0) ∧ St w wr [aOwn 5 1 vo (((Cs.bytesL ws i ++ pre.map fun k => 64 * i + k).map Cs.bI).map (Value.int .u8)), aCel w.heap.size 24 (Cs.clA ws)])
      case atStart => exact ⟨x0, [], _, by omega, rfl, rfl, rfl, Lib.hid rfl, by rw [List.map_nil, List.append_nil]; exact HST.out⟩
      case round =>
        clear HST
        obtain ⟨x, pre, vo, hx, hgz, rfl, rfl, HP, hst⟩ := hrel
        have HGX := Lib.hid hgz
        clear hgz
        by_cases h0 : x = 0
        · have hz : ((x : Int) != 0) = false := by rw [bne_eq_false_iff_eq]; omega
          have hp := HP.out
          rw [h0, Cs.bits_zero, List.append_nil] at hp
          rw [hp, ← HBS.out] at hst
          have HST := Lib.hid hst
          clear hst hp h0
          go_wp2
          go_roundg (4 - (i + 1))
          case measure => have := HGZ.out; omega
          case rel => exact ⟨i + 1, _, by omega, rfl, by go_num, rfl, HST.out⟩
        · have hz : ((x : Int) != 0) = true := by rw [bne_iff_ne]; omega
          have hxl : x < 18446744073709551616 := Nat.lt_of_le_of_lt hx HX0.out
          have HTZ := Lib.hid (tz64_any x hxl h0 wr (fun j hj => bkeep hst.bel (HT.out j hj)))
          have hstep := Cs.bits_step h0 hxl
          have hand : bits .and .u64 (x : Int) ((x : Int) - 1) = ((x &&& (x - 1) : Nat) : Int) := by
            have := bits_and_u64_nat x (x - 1) hxl (by omega)
            rw [← this]; congr 1; omega
          have hsub : IntKind.u64.wrap ((x : Int) - 1) = (x : Int) - 1 := by rw [IntKind.wrap_u64]; omega
          have hctz := (Cs.low_bit h0 hxl).1
          have hlt2 := Cs.and_pred_lt h0
          have hpl : pre.length ≤ 64 := by
            have := congrArg List.length HP.out
            rw [List.length_append] at this
            have h2 := Cs.bits_len x0
            omega
          have hbl := Cs.bytes_len ws i
          generalize Lib.ctz 64 x = k at *
          generalize x &&& (x - 1) = y at *
          have HP2 := Lib.hid (show (pre ++ [k]) ++ Cs.bitsL y = Cs.bitsL x0 by rw [← HP.out, hstep]; simp)
          have hor : bits .or .i64 ((i : Int) * 64) (k : Int) = ((64 * i + k : Nat) : Int) := by rw [Int.mul_comm]; exact Cs.or64 i k hctz hlt
          have hkm : ((64 * i + k : Nat) : Int) % 256 = ((64 * i + k : Nat) : Int) := by omega
          have hkk : ((64 * i + k : Nat) : Int) < 256 := by omega
          have HAP := Lib.hid (show ((Cs.bytesL ws i ++ pre.map fun k => 64 * i + k).map Cs.bI).map (Value.int .u8) ++ [.int .u8 ((64 * i + k : Nat) : Int)] = ((Cs.bytesL ws i ++ (pre ++ [k]).map fun k => 64 * i + k).map Cs.bI).map (Value.int .u8) by simp [Cs.bI])
          have HLN := Lib.hid (show (((Cs.bytesL ws i ++ pre.map fun k => 64 * i + k).map Cs.bI).map (Value.int .u8)).length ≤ 400 by simp only [List.length_map, List.length_append]; omega)
          have HST := Lib.hid hst
          have HY := Lib.hid hlt2
          clear hst hstep hpl hbl h0 hlt2 hxl
          generalize hN : 64 * i + k = N at *
          go_wp2_with (fail)
          go_at_call 42
          refine (HTZ.out).mono ?_
          rintro e w6 ⟨rfl, rfl⟩
          go_wp2_with (at_builtin; refine St.app1n u8E rfl (.tmp 13) (.tmp 20) rfl rfl HST.out (.int .u8 (N : Int)) rfl wr.heap.size 1 rfl rfl rfl (by intro q hq; simp [Value.cells] at hq; subst hq; rfl) (by have := HLN.out; unfold maxLen; omega) (by have := HLN.out; omega) ?_; intro g' n' c' w9 hst9; rw [HAP.out] at hst9; have HST9 := Lib.hid hst9; clear hst9 HST)
          go_roundg y
          case measure => have := HGX.out; have := HY.out; omega
          case rel => exact ⟨y, pre ++ [k], _, by have := HY.out; omega, rfl, rfl, rfl, HP2, HST9.out⟩
    · have hie : i = 4 := by omega
      have hge : ¬ ((i : Int) < 4) := by omega
      rw [hie] at hst
      have hcv : (convert 26 9 vo).run Tryd.prog wr = .ok (.string (strOfNums ((Cs.bytesL ws 4).map Cs.bI))) wr := convOwn Tryd.underlying26 Tryd.underlying5 Tryd.underlying9 _ (hst.ok _ (.head _))
      rw [HZ.out] at hcv
      have HST := Lib.hid hst
      clear hst hie
      go_wp2
      go_ret
      exact ⟨rfl, HST.out.bel⟩
end Go.Proofs.YtlgabpcddldelaaDoor
