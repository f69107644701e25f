/-
  front of package frame: what it computes.
-/
import Derived.Test.YtldapomcjfkeeaaFrd
import Derived.Test.YtldapomcjfkeeaaSep
import Derived.Lib.IndexBytes
namespace Go.Proofs.Ytldapomcjfkeeaa
set_option linter.unusedVariables false
open Go.ChangeShapes Go.WideShapes Go.ChangeAt Go.RowKit
open Pack (bat bat_get bat_nn bat_lt)

theorem i64_or_nat (a b : Nat) (ha : a < 4294967296) (hb : b < 4294967296) : bits .or .i64 (a : Int) (b : Int) = ((a ||| b : Nat) : Int) := by
  have hx : a ||| b < 2 ^ 32 := Nat.or_lt_two_pow (by omega) (by omega)
  have e1 : ∀ c : Nat, c < 4294967296 → (BitVec.ofInt 64 (c : Int)).toNat = c := fun c hc => by
    rw [BitVec.ofInt_natCast, BitVec.toNat_ofNat]; exact Nat.mod_eq_of_lt (by omega)
  show IntKind.i64.wrap ((BitVec.ofInt 64 (a : Int) ||| BitVec.ofInt 64 (b : Int)).toNat : Int) = _
  rw [BitVec.toNat_or, e1 a ha, e1 b hb]
  exact IntWalk.i64_in _ (by omega)
theorem or_num (a b : Int) (h1 : 0 ≤ a) (h2 : a < 256) (h3 : 0 ≤ b) (h4 : b < 256) : bits .or .i64 a (b * 256) = a + 256 * b := by
  obtain ⟨A, rfl⟩ := Int.eq_ofNat_of_zero_le h1
  obtain ⟨B, rfl⟩ := Int.eq_ofNat_of_zero_le h3
  have e : ((B : Int) * 256) = ((B * 256 : Nat) : Int) := by omega
  rw [e, i64_or_nat A (B * 256) (by omega) (by omega), nat_join8' (B * 256) A (by omega) (by omega)]
  omega
theorem or4 (a b c d : Int) (ha : 0 ≤ a ∧ a < 256) (hb : 0 ≤ b ∧ b < 256) (hc : 0 ≤ c ∧ c < 256) (hd : 0 ≤ d ∧ d < 256) :
    bits .or .u32 (bits .or .u32 (bits .or .u32 a (b * 256)) (c * 65536)) (d * 16777216) = a + 256 * b + 65536 * c + 16777216 * d := by
  obtain ⟨A, rfl⟩ := Int.eq_ofNat_of_zero_le ha.1
  obtain ⟨B, rfl⟩ := Int.eq_ofNat_of_zero_le hb.1
  obtain ⟨C, rfl⟩ := Int.eq_ofNat_of_zero_le hc.1
  obtain ⟨D, rfl⟩ := Int.eq_ofNat_of_zero_le hd.1
  have e1 : ((B : Int) * 256) = ((B * 256 : Nat) : Int) := by omega
  have e2 : ((C : Int) * 65536) = ((C * 65536 : Nat) : Int) := by omega
  have e3 : ((D : Int) * 16777216) = ((D * 16777216 : Nat) : Int) := by omega
  rw [e1, e2, e3, u32_or_nat A (B * 256) (by omega) (by omega), nat_join8' (B * 256) A (by omega) (by omega), u32_or_nat _ (C * 65536) (by omega) (by omega), nat_join16' (C * 65536) _ (by omega) (by omega), u32_or_nat _ (D * 16777216) (by omega) (by omega), nat_join24' (D * 16777216) _ (by omega) (by omega)]
  omega

namespace Frd
/-- What front tells: the frame, its size, the error. -/
noncomputable def out (s : ByteArray) : (Int × Int × ByteArray) × Int × Int := match res s with
  | .bad e => ((0, 0, ⟨#[]⟩), 0, e)
  | .more => ((0, 0, ⟨#[]⟩), 0, 0)
  | .got => (frame s, num s + 8, 0)
def RetF (r : (Int × Int × ByteArray) × Int × Int) (w : World) (e : Ending) (w' : World) : Prop := e = .returned (.tuple #[.agg #[.int .i64 r.1.1, .int .i64 r.1.2.1, .string r.1.2.2], .int .i64 r.2.1, .int .i64 r.2.2]) ∧ Below w.heap.size w w'
theorem bat_tail (s : ByteArray) (a j : Nat) : bat s (a + j) = bat (s.extract a s.size) j := by
  unfold bat
  rw [Lib.extract_to_end, List.getElem?_drop]
theorem out_bad {s e} (h : res s = .bad e) : out s = ((0, 0, ⟨#[]⟩), 0, e) := by rw [out, h]
theorem out_more {s} (h : res s = .more) : out s = ((0, 0, ⟨#[]⟩), 0, 0) := by rw [out, h]
theorem out_got {s} (h : res s = .got) : out s = (frame s, num s + 8, 0) := by rw [out, h]
end Frd
attribute [irreducible] Frd.out

set_option maxRecDepth 100000 in
set_option maxHeartbeats 8000000 in
theorem front_any (s : ByteArray) (hs : (s.size : Int) ≤ 140737488355328) (w : World) :
    Calls Try.prog 72 #[.string s] w (Frd.RetF (Frd.out s) w) := by
  have hst := (St.init w).alloc #[.int .i64 0, .int .i64 0, .string ⟨#[]⟩] 32
  obtain ⟨k0, k1, k2⟩ := (show _ ∧ _ ∧ _ from ⟨hst.celAt (i := 0) rfl, hst.celAt (i := 1) rfl, hst.celAt (i := 2) rfl⟩)
  have HB := Lib.hid hst.bel
  have HK := Lib.hid (And.intro k0 (And.intro k1 k2))
  clear k0 k1 k2
  clear hst
  rcases Frd.front_cases s with ⟨h0, h1, hr⟩ | ⟨h0, h1, hr⟩ | ⟨h0, h1, h2, h3, hr⟩ | ⟨h0, h1, h2, h3, h4, hr⟩ | ⟨h0, h1, h2, h3, h4, h5, hr⟩ | ⟨h0, h1, h2, h3, h4, h5, hr⟩
  · rw [Frd.out_bad hr]
    have b0 := bat_get s 0 h0
    clear hr
    rcases h1 with h1 | h1
    · rw [← b0] at h1
      clear b0
      go_enter Try.func72, Try.ntmps72
      go_wp2
      obtain ⟨k0, k1, k2⟩ := HK.out
      refine bodyPost_ret (v := .tuple #[.agg #[.int .i64 0, .int .i64 0, .string ⟨#[]⟩], .int .i64 0, .int .i64 1]) ?_ rfl ?_
      · simp [results, Try.results72, go_sem, k0, k1, k2]
      · exact ⟨rfl, HB.out⟩
    · rw [← b0] at h1
      clear b0
      go_enter Try.func72, Try.ntmps72
      go_wp2
      obtain ⟨k0, k1, k2⟩ := HK.out
      refine bodyPost_ret (v := .tuple #[.agg #[.int .i64 0, .int .i64 0, .string ⟨#[]⟩], .int .i64 0, .int .i64 1]) ?_ rfl ?_
      · simp [results, Try.results72, go_sem, k0, k1, k2]
      · exact ⟨rfl, HB.out⟩
  · rw [Frd.out_more hr]
    clear hr
    by_cases hz : 0 < s.size
    · have b0 := bat_get s 0 hz
      have q1 : 1 ≤ bat s 0 := by omega
      have q2 : bat s 0 ≤ 9 := by omega
      rw [← b0] at q1 q2
      clear b0 h0
      go_enter Try.func72, Try.ntmps72
      go_wp2
      obtain ⟨k0, k1, k2⟩ := HK.out
      refine bodyPost_ret (v := .tuple #[.agg #[.int .i64 0, .int .i64 0, .string ⟨#[]⟩], .int .i64 0, .int .i64 0]) ?_ rfl ?_
      · simp [results, Try.results72, go_sem, k0, k1, k2]
      · exact ⟨rfl, HB.out⟩
    · have hz0 : s.size = 0 := by omega
      have hzd : decide (0 < s.size) = false := decide_eq_false hz
      clear h0 hz hz0
      go_enter Try.func72, Try.ntmps72
      go_wp2
      obtain ⟨k0, k1, k2⟩ := HK.out
      refine bodyPost_ret (v := .tuple #[.agg #[.int .i64 0, .int .i64 0, .string ⟨#[]⟩], .int .i64 0, .int .i64 0]) ?_ rfl ?_
      · simp [results, Try.results72, go_sem, k0, k1, k2]
      · exact ⟨rfl, HB.out⟩
  · rw [Frd.out_bad hr]
    clear hr
    have b0 := bat_get s 0 (by omega)
    have b2 := bat_get s 2 (by omega)
    have b3 := bat_get s 3 (by omega)
    rw [← b0] at h0 h1
    have h40 : 0 < s.size := by omega
    have h42 : 2 < s.size := by omega
    have h43 : 3 < s.size := by omega
    clear b0
    have hor := or_num (bat s 2) (bat s 3) (bat_nn s 2) (bat_lt s 2) (bat_nn s 3) (bat_lt s 3)
    have hnum : bat s 2 + 256 * bat s 3 = Frd.num s := rfl
    rw [hnum] at hor
    have hn := Frd.num_in s
    have hn0 : 0 ≤ Frd.num s := hn.1
    have hn1 : Frd.num s ≤ 65535 := hn.2
    have l2 := bat_lt s 2; have g2 := bat_nn s 2; have l3 := bat_lt s 3; have g3 := bat_nn s 3
    generalize bat s 2 = x2 at *
    generalize bat s 3 = x3 at *
    generalize hN : Frd.num s = N at *
    have w2 : IntKind.i64.wrap x2 = x2 := IntWalk.i64_in _ (by omega)
    have w3 : IntKind.i64.wrap x3 = x3 := IntWalk.i64_in _ (by omega)
    have w4 : IntKind.i64.wrap (x3 * 256) = x3 * 256 := IntWalk.i64_in _ (by omega)
    have HN := Lib.hid hN
    clear hn hnum hN
    go_enter Try.func72, Try.ntmps72
    go_wp2
    go_quiet (fail)
    rename_i nq
    go_wp2
    clear HK
    have hst2 := ((((St.init w).alloc #[.int .i64 0, .int .i64 0, .string ⟨#[]⟩] 32).drewN nq).setCel 0 (.int .i64 0)).setCel 1 (.int .i64 0) |>.setCel 2 (.string ⟨#[]⟩)
    obtain ⟨k0, k1, k2⟩ := (show _ ∧ _ ∧ _ from ⟨hst2.celAt (i := 0) rfl, hst2.celAt (i := 1) rfl, hst2.celAt (i := 2) rfl⟩)
    refine bodyPost_ret (v := .tuple #[.agg #[.int .i64 0, .int .i64 0, .string ⟨#[]⟩], .int .i64 0, .int .i64 2]) ?_ rfl ?_
    · simp [results, Try.results72, go_sem, k0, k1, k2]
    · exact ⟨rfl, hst2.bel⟩
  · rw [Frd.out_more hr]
    clear hr
    have b0 := bat_get s 0 (by omega)
    have b2 := bat_get s 2 (by omega)
    have b3 := bat_get s 3 (by omega)
    rw [← b0] at h0 h1
    have h40 : 0 < s.size := by omega
    have h42 : 2 < s.size := by omega
    have h43 : 3 < s.size := by omega
    clear b0
    have hor := or_num (bat s 2) (bat s 3) (bat_nn s 2) (bat_lt s 2) (bat_nn s 3) (bat_lt s 3)
    have hnum : bat s 2 + 256 * bat s 3 = Frd.num s := rfl
    rw [hnum] at hor
    have hn := Frd.num_in s
    have hn0 : 0 ≤ Frd.num s := hn.1
    have hn1 : Frd.num s ≤ 65535 := hn.2
    have l2 := bat_lt s 2; have g2 := bat_nn s 2; have l3 := bat_lt s 3; have g3 := bat_nn s 3
    generalize bat s 2 = x2 at *
    generalize bat s 3 = x3 at *
    generalize hN : Frd.num s = N at *
    have w2 : IntKind.i64.wrap x2 = x2 := IntWalk.i64_in _ (by omega)
    have w3 : IntKind.i64.wrap x3 = x3 := IntWalk.i64_in _ (by omega)
    have w4 : IntKind.i64.wrap (x3 * 256) = x3 * 256 := IntWalk.i64_in _ (by omega)
    have HN := Lib.hid hN
    clear hn hnum hN
    go_enter Try.func72, Try.ntmps72
    go_wp2
    go_quiet (fail)
    rename_i nq
    go_wp2
    clear HK
    have hst2 := ((((St.init w).alloc #[.int .i64 0, .int .i64 0, .string ⟨#[]⟩] 32).drewN nq).setCel 0 (.int .i64 0)).setCel 1 (.int .i64 0) |>.setCel 2 (.string ⟨#[]⟩)
    obtain ⟨k0, k1, k2⟩ := (show _ ∧ _ ∧ _ from ⟨hst2.celAt (i := 0) rfl, hst2.celAt (i := 1) rfl, hst2.celAt (i := 2) rfl⟩)
    refine bodyPost_ret (v := .tuple #[.agg #[.int .i64 0, .int .i64 0, .string ⟨#[]⟩], .int .i64 0, .int .i64 0]) ?_ rfl ?_
    · simp [results, Try.results72, go_sem, k0, k1, k2]
    · exact ⟨rfl, hst2.bel⟩
  · rw [Frd.out_bad hr]
    clear hr
    have b0 := bat_get s 0 (by omega)
    have b2 := bat_get s 2 (by omega)
    have b3 := bat_get s 3 (by omega)
    rw [← b0] at h0 h1
    have h40 : 0 < s.size := by omega
    have h42 : 2 < s.size := by omega
    have h43 : 3 < s.size := by omega
    clear b0
    have hor := or_num (bat s 2) (bat s 3) (bat_nn s 2) (bat_lt s 2) (bat_nn s 3) (bat_lt s 3)
    have hnum : bat s 2 + 256 * bat s 3 = Frd.num s := rfl
    rw [hnum] at hor
    have hn := Frd.num_in s
    have hn0 : 0 ≤ Frd.num s := hn.1
    have hn1 : Frd.num s ≤ 65535 := hn.2
    have l2 := bat_lt s 2; have g2 := bat_nn s 2; have l3 := bat_lt s 3; have g3 := bat_nn s 3
    generalize bat s 2 = x2 at *
    generalize bat s 3 = x3 at *
    generalize hN : Frd.num s = N at *
    have w2 : IntKind.i64.wrap x2 = x2 := IntWalk.i64_in _ (by omega)
    have w3 : IntKind.i64.wrap x3 = x3 := IntWalk.i64_in _ (by omega)
    have w4 : IntKind.i64.wrap (x3 * 256) = x3 * 256 := IntWalk.i64_in _ (by omega)
    have HN := Lib.hid hN
    clear hn hnum hN
    have hM : Frd.body s = N.toNat := by unfold Frd.body; rw [HN.out]
    obtain ⟨M, rfl⟩ := Int.eq_ofNat_of_zero_le hn0
    rw [Int.toNat_natCast] at hM
    have HM := Lib.hid hM
    clear hM
    have m1 : IntKind.i64.wrap ((M : Int) + 4) = (M : Int) + 4 := IntWalk.i64_in _ (by omega)
    have m2 : (0 : Int) ≤ (M : Int) + 4 := by omega
    have m3 : ((M : Int) + 4).toNat = M + 4 := by omega
    have m4 : (M : Int) + 4 ≤ s.size := by omega
    have m5 : M + 4 ≤ s.size := by omega
    have HSM := Lib.hid (fun W => (sum_any (s.extract 0 (M + 4)) (by rw [ByteArray.size_extract]; unfold maxLen; omega) W).mono (fun e w' h => (⟨h.1, h.2.symm⟩ : _ ∧ w' = W)))
    obtain ⟨CC, hCC⟩ : ∃ CC, Crc.more 0 (s.extract 0 (M + 4)).data.toList = CC := ⟨_, rfl⟩
    rw [hCC] at HSM
    have HCC := Lib.hid hCC
    clear hCC
    go_enter Try.func72, Try.ntmps72
    go_wp2
    go_quiet (fail)
    rename_i nq
    go_wp2
    have hst := ((St.init w).alloc #[.int .i64 0, .int .i64 0, .string ⟨#[]⟩] 32).drewN nq
    generalize (w.alloc (.cells #[.int .i64 0, .int .i64 0, .string ⟨#[]⟩] 32)).drewN nq = W1 at hst ⊢
    go_quiet ((go_at_call 137; exact Calls.quiet_of_same (HSM.out _)))
    go_wp2
    replace hst := hst.drewN nq
    generalize W1.drewN nq = W2 at hst ⊢
    clear HSM W1 m1 m2 m3
    have hT4 : (s.extract (M + 4) s.size).size = s.size - (M + 4) := by rw [ByteArray.size_extract]; omega
    have HBT := Lib.hid (fun j => Frd.bat_tail s (M + 4) j)
    generalize hT : s.extract (M + 4) s.size = T at *
    have u0 : 0 < T.size := by omega
    have u1 : 1 < T.size := by omega
    have u2 : 2 < T.size := by omega
    have u3 : 3 < T.size := by omega
    have c0 := bat_get T 0 u0
    have c1 := bat_get T 1 u1
    have c2 := bat_get T 2 u2
    have c3 := bat_get T 3 u3
    have e0 := bat_lt T 0; have e1 := bat_lt T 1; have e2 := bat_lt T 2; have e3 := bat_lt T 3
    have f0 := bat_nn T 0; have f1 := bat_nn T 1; have f2 := bat_nn T 2; have f3 := bat_nn T 3
    have hor4 := or4 (bat T 0) (bat T 1) (bat T 2) (bat T 3) ⟨f0, e0⟩ ⟨f1, e1⟩ ⟨f2, e2⟩ ⟨f3, e3⟩
    have HT4 : Hid (Frd.tail4 s = bat T 0 + 256 * bat T 1 + 65536 * bat T 2 + 16777216 * bat T 3) := Lib.hid (by
      have a0 : bat s (M + 4) = bat T 0 := HBT.out 0
      have a1 : bat s (M + 5) = bat T 1 := HBT.out 1
      have a2 : bat s (M + 6) = bat T 2 := HBT.out 2
      have a3 : bat s (M + 7) = bat T 3 := HBT.out 3
      unfold Frd.tail4; rw [HM.out, a0, a1, a2, a3])
    have HCS : Hid (Frd.csum s = CC) := Lib.hid (by unfold Frd.csum; rw [HM.out]; exact HCC.out)
    generalize bat T 0 = z0 at *
    generalize bat T 1 = z1 at *
    generalize bat T 2 = z2 at *
    generalize bat T 3 = z3 at *
    have v0 : IntKind.u32.wrap z0 = z0 := by simp [IntKind.wrap, IntKind.bits, IntKind.signed]; omega
    have v1 : IntKind.u32.wrap z1 = z1 := by simp [IntKind.wrap, IntKind.bits, IntKind.signed]; omega
    have v2 : IntKind.u32.wrap z2 = z2 := by simp [IntKind.wrap, IntKind.bits, IntKind.signed]; omega
    have v3 : IntKind.u32.wrap z3 = z3 := by simp [IntKind.wrap, IntKind.bits, IntKind.signed]; omega
    have v4 : IntKind.u32.wrap (z1 * 256) = z1 * 256 := by simp [IntKind.wrap, IntKind.bits, IntKind.signed]; omega
    have v5 : IntKind.u32.wrap (z2 * 65536) = z2 * 65536 := by simp [IntKind.wrap, IntKind.bits, IntKind.signed]; omega
    have v6 : IntKind.u32.wrap (z3 * 16777216) = z3 * 16777216 := by simp [IntKind.wrap, IntKind.bits, IntKind.signed]; omega
    generalize hY : z0 + 256 * z1 + 65536 * z2 + 16777216 * z3 = Y at *
    clear hT hT4 hY
    have hcb : (CC != Y) = true := by rw [bne_iff_ne]; rw [HCS.out, HT4.out] at h5; exact h5
    clear h5
    obtain ⟨x0, x1, x2', xf0, xf1, xf2⟩ := (show _ ∧ _ ∧ _ ∧ _ ∧ _ ∧ _ from ⟨hst.celAt (i := 0) rfl, hst.celAt (i := 1) rfl, hst.celAt (i := 2) rfl, hst.celFree 0, hst.celFree 1, hst.celFree 2⟩)
    go_quiet (fail)
    go_wp2
    have hst2 := ((hst.drewN nq).setCel 0 (.int .i64 0)).setCel 1 (.int .i64 0) |>.setCel 2 (.string ⟨#[]⟩)
    obtain ⟨k0, k1, k2⟩ := (show _ ∧ _ ∧ _ from ⟨hst2.celAt (i := 0) rfl, hst2.celAt (i := 1) rfl, hst2.celAt (i := 2) rfl⟩)
    refine bodyPost_ret (v := .tuple #[.agg #[.int .i64 0, .int .i64 0, .string ⟨#[]⟩], .int .i64 0, .int .i64 5]) ?_ rfl ?_
    · simp [results, Try.results72, go_sem, k0, k1, k2]
    · exact ⟨rfl, hst2.bel⟩
  · rw [Frd.out_got hr]
    clear hr
    have b0 := bat_get s 0 (by omega)
    have b2 := bat_get s 2 (by omega)
    have b3 := bat_get s 3 (by omega)
    rw [← b0] at h0 h1
    have h40 : 0 < s.size := by omega
    have h42 : 2 < s.size := by omega
    have h43 : 3 < s.size := by omega
    clear b0
    have hor := or_num (bat s 2) (bat s 3) (bat_nn s 2) (bat_lt s 2) (bat_nn s 3) (bat_lt s 3)
    have hnum : bat s 2 + 256 * bat s 3 = Frd.num s := rfl
    rw [hnum] at hor
    have hn := Frd.num_in s
    have hn0 : 0 ≤ Frd.num s := hn.1
    have hn1 : Frd.num s ≤ 65535 := hn.2
    have l2 := bat_lt s 2; have g2 := bat_nn s 2; have l3 := bat_lt s 3; have g3 := bat_nn s 3
    generalize bat s 2 = x2 at *
    generalize bat s 3 = x3 at *
    generalize hN : Frd.num s = N at *
    have w2 : IntKind.i64.wrap x2 = x2 := IntWalk.i64_in _ (by omega)
    have w3 : IntKind.i64.wrap x3 = x3 := IntWalk.i64_in _ (by omega)
    have w4 : IntKind.i64.wrap (x3 * 256) = x3 * 256 := IntWalk.i64_in _ (by omega)
    have HN := Lib.hid hN
    clear hn hnum hN
    have hM : Frd.body s = N.toNat := by unfold Frd.body; rw [HN.out]
    obtain ⟨M, rfl⟩ := Int.eq_ofNat_of_zero_le hn0
    rw [Int.toNat_natCast] at hM
    have HM := Lib.hid hM
    clear hM
    have m1 : IntKind.i64.wrap ((M : Int) + 4) = (M : Int) + 4 := IntWalk.i64_in _ (by omega)
    have m2 : (0 : Int) ≤ (M : Int) + 4 := by omega
    have m3 : ((M : Int) + 4).toNat = M + 4 := by omega
    have m4 : (M : Int) + 4 ≤ s.size := by omega
    have m5 : M + 4 ≤ s.size := by omega
    have HSM := Lib.hid (fun W => (sum_any (s.extract 0 (M + 4)) (by rw [ByteArray.size_extract]; unfold maxLen; omega) W).mono (fun e w' h => (⟨h.1, h.2.symm⟩ : _ ∧ w' = W)))
    obtain ⟨CC, hCC⟩ : ∃ CC, Crc.more 0 (s.extract 0 (M + 4)).data.toList = CC := ⟨_, rfl⟩
    rw [hCC] at HSM
    have HCC := Lib.hid hCC
    clear hCC
    go_enter Try.func72, Try.ntmps72
    go_wp2
    go_quiet (fail)
    rename_i nq
    go_wp2
    have hst := ((St.init w).alloc #[.int .i64 0, .int .i64 0, .string ⟨#[]⟩] 32).drewN nq
    generalize (w.alloc (.cells #[.int .i64 0, .int .i64 0, .string ⟨#[]⟩] 32)).drewN nq = W1 at hst ⊢
    go_quiet ((go_at_call 137; exact Calls.quiet_of_same (HSM.out _)))
    go_wp2
    replace hst := hst.drewN nq
    generalize W1.drewN nq = W2 at hst ⊢
    clear HSM W1 m1 m2 m3
    have hT4 : (s.extract (M + 4) s.size).size = s.size - (M + 4) := by rw [ByteArray.size_extract]; omega
    have HBT := Lib.hid (fun j => Frd.bat_tail s (M + 4) j)
    generalize hT : s.extract (M + 4) s.size = T at *
    have u0 : 0 < T.size := by omega
    have u1 : 1 < T.size := by omega
    have u2 : 2 < T.size := by omega
    have u3 : 3 < T.size := by omega
    have c0 := bat_get T 0 u0
    have c1 := bat_get T 1 u1
    have c2 := bat_get T 2 u2
    have c3 := bat_get T 3 u3
    have e0 := bat_lt T 0; have e1 := bat_lt T 1; have e2 := bat_lt T 2; have e3 := bat_lt T 3
    have f0 := bat_nn T 0; have f1 := bat_nn T 1; have f2 := bat_nn T 2; have f3 := bat_nn T 3
    have hor4 := or4 (bat T 0) (bat T 1) (bat T 2) (bat T 3) ⟨f0, e0⟩ ⟨f1, e1⟩ ⟨f2, e2⟩ ⟨f3, e3⟩
    have HT4 : Hid (Frd.tail4 s = bat T 0 + 256 * bat T 1 + 65536 * bat T 2 + 16777216 * bat T 3) := Lib.hid (by
      have a0 : bat s (M + 4) = bat T 0 := HBT.out 0
      have a1 : bat s (M + 5) = bat T 1 := HBT.out 1
      have a2 : bat s (M + 6) = bat T 2 := HBT.out 2
      have a3 : bat s (M + 7) = bat T 3 := HBT.out 3
      unfold Frd.tail4; rw [HM.out, a0, a1, a2, a3])
    have HCS : Hid (Frd.csum s = CC) := Lib.hid (by unfold Frd.csum; rw [HM.out]; exact HCC.out)
    generalize bat T 0 = z0 at *
    generalize bat T 1 = z1 at *
    generalize bat T 2 = z2 at *
    generalize bat T 3 = z3 at *
    have v0 : IntKind.u32.wrap z0 = z0 := by simp [IntKind.wrap, IntKind.bits, IntKind.signed]; omega
    have v1 : IntKind.u32.wrap z1 = z1 := by simp [IntKind.wrap, IntKind.bits, IntKind.signed]; omega
    have v2 : IntKind.u32.wrap z2 = z2 := by simp [IntKind.wrap, IntKind.bits, IntKind.signed]; omega
    have v3 : IntKind.u32.wrap z3 = z3 := by simp [IntKind.wrap, IntKind.bits, IntKind.signed]; omega
    have v4 : IntKind.u32.wrap (z1 * 256) = z1 * 256 := by simp [IntKind.wrap, IntKind.bits, IntKind.signed]; omega
    have v5 : IntKind.u32.wrap (z2 * 65536) = z2 * 65536 := by simp [IntKind.wrap, IntKind.bits, IntKind.signed]; omega
    have v6 : IntKind.u32.wrap (z3 * 16777216) = z3 * 16777216 := by simp [IntKind.wrap, IntKind.bits, IntKind.signed]; omega
    generalize hY : z0 + 256 * z1 + 65536 * z2 + 16777216 * z3 = Y at *
    clear hT hT4 hY
    have hcb : (CC != Y) = false := by rw [bne_eq_false_iff_eq]; rw [HCS.out, HT4.out] at h5; exact h5
    clear h5
    obtain ⟨x0, x1, x2', xf0, xf1, xf2⟩ := (show _ ∧ _ ∧ _ ∧ _ ∧ _ ∧ _ from ⟨hst.celAt (i := 0) rfl, hst.celAt (i := 1) rfl, hst.celAt (i := 2) rfl, hst.celFree 0, hst.celFree 1, hst.celFree 2⟩)
    go_quiet (fail)
    go_wp2
    replace hst := hst.drewN nq
    generalize W2.drewN nq = W3 at hst ⊢
    clear x0 x1 x2' xf0 xf1 xf2 hcb hor4 HT4 HCS HBT v0 v1 v2 v3 v4 v5 v6 e0 e1 e2 e3 f0 f1 f2 f3 c0 c1 c2 c3 u0 u1 u2 u3 w2 w3 w4 hor b2 b3
    obtain ⟨x0, x1, x2', xf0, xf1, xf2⟩ := (show _ ∧ _ ∧ _ ∧ _ ∧ _ ∧ _ from ⟨hst.celAt (i := 0) rfl, hst.celAt (i := 1) rfl, hst.celAt (i := 2) rfl, hst.celFree 0, hst.celFree 1, hst.celFree 2⟩)
    have b0 := bat_get s 0 (by omega)
    have b1 := bat_get s 1 (by omega)
    have q0 := bat_lt s 0; have q1 := bat_lt s 1; have r0 := bat_nn s 0; have r1 := bat_nn s 1
    have HFR : Hid (Frd.frame s = (bat s 0, bat s 1, s.extract 4 (M + 4))) := Lib.hid (by unfold Frd.frame; rw [HM.out])
    generalize bat s 0 = y0 at *
    generalize bat s 1 = y1 at *
    have m1 : IntKind.i64.wrap ((M : Int) + 4) = (M : Int) + 4 := IntWalk.i64_in _ (by omega)
    have m2 : (0 : Int) ≤ (M : Int) + 4 := by omega
    have m3 : ((M : Int) + 4).toNat = M + 4 := by omega
    have m6 : (4 : Int) ≤ (M : Int) + 4 := by omega
    have m7 : IntKind.i64.wrap ((M : Int) + 8) = (M : Int) + 8 := IntWalk.i64_in _ (by omega)
    have s0 : IntKind.i64.wrap y0 = y0 := IntWalk.i64_in _ (by omega)
    have s1 : IntKind.i64.wrap y1 = y1 := IntWalk.i64_in _ (by omega)
    have h41 : 1 < s.size := by omega
    have hstF := (((hst.setCel 0 (.int .i64 y0)).setCel 1 (.int .i64 y1)).setCel 2 (.string (s.extract 4 (M + 4)))).drew
    have HF := Lib.hid hstF
    clear hst hstF q0 q1 r0 r1
    go_region
    go_wp2
    obtain ⟨k0, k1, k2⟩ := (show _ ∧ _ ∧ _ from ⟨HF.out.celAt (i := 0) rfl, HF.out.celAt (i := 1) rfl, HF.out.celAt (i := 2) rfl⟩)
    refine bodyPost_ret (v := .tuple #[.agg #[.int .i64 y0, .int .i64 y1, .string (s.extract 4 (M + 4))], .int .i64 ((M : Int) + 8), .int .i64 0]) ?_ rfl ?_
    · simp [results, Try.results72, go_sem, k0, k1, k2]
    · exact ⟨by rw [HFR.out], HF.out.bel⟩
end Go.Proofs.Ytldapomcjfkeeaa
