/-
  Parts of the proof of RexReads, put together: RpRef2 RpRef3 RpRef4 RpRep RpRef5. (Helper texts.)
-/
import Derived.Test.YtfelikfppjlcmaaG3

/-
  The reference's reader of regular expressions: char.
-/
namespace Go.Proofs.Ytfelikfppjlcmaa
set_option linter.unusedVariables false
set_option linter.unusedSimpArgs false
open Go.ChangeShapes Go.WideShapes Go.ChangeAt Go.RowKit

namespace Rp
def LeftR (T : Nat) (s : ByteArray) (op : Int) (w0 : World) (μ : List Asrt) (r : Re Nat) (ex : Ending) (w' : World) : Prop :=
  match r with
  | .ok (x, b) => ex = .returned (.tuple #[.int .i64 (x : Int), .pointer none]) ∧ St w0 w' (rt T s b op :: μ)
  | .error (e, p) => ∃ (g : Nat) (a' : Int), ex = .returned (.tuple #[.int .i64 0, .pointer (some ⟨g, 0, none⟩)]) ∧ St w0 w' (sp g e p :: rt T s a' op :: μ)
theorem chr_pk (s : ByteArray) (a : Nat) : chr s a = if pk s a = 92 then turned s (a + 1) else if pk s a < 33 ∨ 126 < pk s a ∨ sgI (pk s a) = true then .error (6, a) else .ok ((pk s a).toNat, a + 1) := by
  unfold chr
  by_cases h : a < s.size
  · rw [if_pos h, pk_in h, sgI_nat _ (byt_lt s a)]
    have e1 : ((byt s a : Int) = 92) ↔ byt s a = 92 := by omega
    have e2 : ((byt s a : Int) < 33 ∨ 126 < (byt s a : Int) ∨ Rct.isSign (byt s a) = true) ↔ (byt s a < 33 ∨ 126 < byt s a ∨ Rct.isSign (byt s a) = true) := by
      constructor
      · rintro (h | h | h)
        · exact .inl (by omega)
        · exact .inr (.inl (by omega))
        · exact .inr (.inr h)
      · rintro (h | h | h)
        · exact .inl (by omega)
        · exact .inr (.inl (by omega))
        · exact .inr (.inr h)
    simp only [e1, e2, Int.toNat_natCast]
  · rw [if_neg h, pk_out h, if_neg (by decide), if_pos (.inl (by decide))]
theorem turned_pk (s : ByteArray) (a : Nat) : turned s a = if pk s a = 110 then .ok (10, a + 1) else if pk s a = 116 then .ok (9, a + 1) else if pk s a = 115 then .ok (32, a + 1)
    else if pk s a = 120 then hex s (a + 1) else if sgI (pk s a) = true then .ok ((pk s a).toNat, a + 1) else .error (6, a) := by
  by_cases h : a < s.size
  · rw [turned_in h, pk_in h, sgI_nat _ (byt_lt s a)]
    have e1 : ((byt s a : Int) = 110) ↔ byt s a = 110 := by omega
    have e2 : ((byt s a : Int) = 116) ↔ byt s a = 116 := by omega
    have e3 : ((byt s a : Int) = 115) ↔ byt s a = 115 := by omega
    have e4 : ((byt s a : Int) = 120) ↔ byt s a = 120 := by omega
    simp only [e1, e2, e3, e4, Int.toNat_natCast]
  · rw [turned_end h, pk_out h]
    rfl
def HexRel (w0 : World) (T : Nat) (s : ByteArray) (op : Int) (μ : List Asrt) (a : Nat) (gk : Nat) (v5 v6 : Value) (wr : World) : Prop :=
  ∃ (i n : Nat), v6 = .int .i64 i ∧ v5 = .int .i64 n ∧ gk = 2 - i ∧ n < 256 ∧ Hid ((i = 0 ∧ n = 0) ∨ (i = 1 ∧ dig s (a + 1) = some n) ∨ (i = 2 ∧ ∃ h l, dig s (a + 1) = some h ∧ dig s (a + 2) = some l ∧ n = 16 * h + l)) ∧ i ≤ 2 ∧ St w0 wr (rt T s (a + i : Nat) op :: μ)
end Rp

set_option maxRecDepth 100000 in
set_option maxHeartbeats 8000000 in
theorem rrChar_any (s : ByteArray) (a : Nat) (op : Int) (ha : a ≤ s.size) (hs : s.size ≤ 300) (T : Nat) (w0 w : World) (μ : List Asrt) (h : St w0 w (Rp.rt T s a op :: μ)) :
    Calls Try.prog 212 #[.pointer (some ⟨T, 0, none⟩)] w (Rp.LeftR T s op w0 μ (Rp.chr s a)) := by
  have HPK := Lib.hid (rPeek_any s a op T w0 w μ h hs)
  obtain ⟨hp0, hp1⟩ := Rp.pk_bound s a
  rw [Rp.chr_pk]
  have hin : ∀ b : Int, 0 ≤ b → Rp.pk s a = b → a < s.size := fun b h1 h2 => Rp.pk_lt b h1 h2
  have HIN := Lib.hid (fun (h : 0 ≤ Rp.pk s a) => Rp.pk_lt (s := s) (i := a) _ h rfl)
  clear h hin
  obtain ⟨r, hr⟩ : ∃ r, (if Rp.pk s a = 92 then Rp.turned s (a + 1) else if Rp.pk s a < 33 ∨ 126 < Rp.pk s a ∨ Rp.sgI (Rp.pk s a) = true then .error (6, a) else .ok ((Rp.pk s a).toNat, a + 1) : Rp.Re Nat) = r := ⟨_, rfl⟩
  rw [hr]
  have haw : IntKind.i64.wrap ((a : Int) + 1) = (a : Int) + 1 := IntWalk.i64_in _ (by omega)
  generalize Rp.pk s a = p at *
  by_cases k92 : p = 92
  · rw [if_pos k92, Rp.turned_pk] at hr
    subst k92
    have hlt := HIN.out (by decide)
    have HP2 := Lib.hid (fun w' h' => rPeek_any s (a + 1) op T w0 w' μ h' hs)
    obtain ⟨hq0, hq1⟩ := Rp.pk_bound s (a + 1)
    have HIN2 := Lib.hid (fun (h : 0 ≤ Rp.pk s (a + 1)) => Rp.pk_lt (s := s) (i := a + 1) _ h rfl)
    obtain ⟨q, hq⟩ : ∃ q, Rp.pk s (a + 1) = q := ⟨_, rfl⟩
    rw [hq] at HP2 hq0 hq1 hr HIN2
    clear hq HIN
    have haw2 : IntKind.i64.wrap ((a : Int) + 1 + 1) = (a : Int) + 1 + 1 := IntWalk.i64_in _ (by omega)
    by_cases k110 : q = 110
    · rw [if_pos k110] at hr
      subst hr
      subst k110
      show Calls _ _ _ _ fun ex w' => ex = .returned (.tuple #[.int .i64 10, .pointer none]) ∧ St w0 w' (Rp.rt T s (a + 1 + 1 : Nat) op :: μ)
      go_enter Try.func212, Try.ntmps212
      go_wp2_with (fail)
      go_at_call 120
      refine HPK.out.mono ?_
      rintro ex w1 ⟨rfl, hst⟩
      obtain ⟨c0, c1, c2, f1, f2⟩ := Rp.rtAt hst
      have HS : Hid (St w0 _ (Rp.rt T s (a + 1 : Nat) op :: μ)) := Lib.hid (by rw [Rp.nc]; exact Rp.rtSetA hst ((a : Int) + 1))
      clear hst
      go_wp2_with (fail)
      go_at_call 120
      refine (HP2.out _ HS.out).mono ?_
      clear c0 c1 c2 f1 f2 HS
      rintro ex w2 ⟨rfl, hst⟩
      obtain ⟨c0, c1, c2, f1, f2⟩ := Rp.rtAt hst
      rw [Rp.nc] at c1
      have HE := Lib.hid (Rp.rtSetA hst ((a : Int) + 1 + 1))
      clear hst
      go_wp2
      go_ret2
      exact ⟨rfl, by rw [Rp.nc, Rp.nc]; exact HE.out⟩
    have e110 : (q == 110) = false := by rw [beq_eq_false_iff_ne]; exact k110
    by_cases k116 : q = 116
    · rw [if_neg k110, if_pos k116] at hr
      subst hr
      subst k116
      show Calls _ _ _ _ fun ex w' => ex = .returned (.tuple #[.int .i64 9, .pointer none]) ∧ St w0 w' (Rp.rt T s (a + 1 + 1 : Nat) op :: μ)
      go_enter Try.func212, Try.ntmps212
      go_wp2_with (fail)
      go_at_call 120
      refine HPK.out.mono ?_
      rintro ex w1 ⟨rfl, hst⟩
      obtain ⟨c0, c1, c2, f1, f2⟩ := Rp.rtAt hst
      have HS : Hid (St w0 _ (Rp.rt T s (a + 1 : Nat) op :: μ)) := Lib.hid (by rw [Rp.nc]; exact Rp.rtSetA hst ((a : Int) + 1))
      clear hst
      go_wp2_with (fail)
      go_at_call 120
      refine (HP2.out _ HS.out).mono ?_
      clear c0 c1 c2 f1 f2 HS
      rintro ex w2 ⟨rfl, hst⟩
      obtain ⟨c0, c1, c2, f1, f2⟩ := Rp.rtAt hst
      rw [Rp.nc] at c1
      have HE := Lib.hid (Rp.rtSetA hst ((a : Int) + 1 + 1))
      clear hst
      go_wp2
      go_ret2
      exact ⟨rfl, by rw [Rp.nc, Rp.nc]; exact HE.out⟩
    have e116 : (q == 116) = false := by rw [beq_eq_false_iff_ne]; exact k116
    by_cases k115 : q = 115
    · rw [if_neg k110, if_neg k116, if_pos k115] at hr
      subst hr
      subst k115
      show Calls _ _ _ _ fun ex w' => ex = .returned (.tuple #[.int .i64 32, .pointer none]) ∧ St w0 w' (Rp.rt T s (a + 1 + 1 : Nat) op :: μ)
      go_enter Try.func212, Try.ntmps212
      go_wp2_with (fail)
      go_at_call 120
      refine HPK.out.mono ?_
      rintro ex w1 ⟨rfl, hst⟩
      obtain ⟨c0, c1, c2, f1, f2⟩ := Rp.rtAt hst
      have HS : Hid (St w0 _ (Rp.rt T s (a + 1 : Nat) op :: μ)) := Lib.hid (by rw [Rp.nc]; exact Rp.rtSetA hst ((a : Int) + 1))
      clear hst
      go_wp2_with (fail)
      go_at_call 120
      refine (HP2.out _ HS.out).mono ?_
      clear c0 c1 c2 f1 f2 HS
      rintro ex w2 ⟨rfl, hst⟩
      obtain ⟨c0, c1, c2, f1, f2⟩ := Rp.rtAt hst
      rw [Rp.nc] at c1
      have HE := Lib.hid (Rp.rtSetA hst ((a : Int) + 1 + 1))
      clear hst
      go_wp2
      go_ret2
      exact ⟨rfl, by rw [Rp.nc, Rp.nc]; exact HE.out⟩
    have e115 : (q == 115) = false := by rw [beq_eq_false_iff_ne]; exact k115
    rw [if_neg k110, if_neg k116, if_neg k115] at hr
    by_cases k120 : q = 120
    · rw [if_pos k120] at hr
      subst k120
      have hlt2 := HIN2.out (by decide)
      have HR := Lib.hid hr
      clear k110 k116 k115 e110 e116 e115 hr
      go_enter Try.func212, Try.ntmps212
      go_wp2_with (fail)
      go_at_call 120
      refine HPK.out.mono ?_
      rintro ex w1 ⟨rfl, hst⟩
      obtain ⟨c0, c1, c2, f1, f2⟩ := Rp.rtAt hst
      have HS : Hid (St w0 _ (Rp.rt T s (a + 1 : Nat) op :: μ)) := Lib.hid (by rw [Rp.nc]; exact Rp.rtSetA hst ((a : Int) + 1))
      clear hst
      go_wp2_with (fail)
      go_at_call 120
      refine (HP2.out _ HS.out).mono ?_
      clear c0 c1 c2 f1 f2 HS
      rintro ex w2 ⟨rfl, hst⟩
      obtain ⟨c0, c1, c2, f1, f2⟩ := Rp.rtAt hst
      rw [Rp.nc] at c1
      have HS := Lib.hid hst
      clear hst c0 c1 c2 f1 f2
      go_wp2_with (fail)
      go_loopg [5, 6] 2 (fun gk v5 v6 wr => Rp.HexRel w0 T s op μ (a + 1) gk v5 v6 wr)
      case atStart => exact ⟨0, 0, rfl, rfl, rfl, by decide, Lib.hid (.inl ⟨rfl, rfl⟩), by decide, HS.out⟩
      case round =>
        clear HS
        obtain ⟨i, n, rfl, rfl, hgk, hn, HC, hi2, hst⟩ := hrel
        have HGK := Lib.hid hgk
        clear hgk
        have haw3 : IntKind.i64.wrap (((a + 1 + i : Nat) : Int) + 1) = ((a + 1 + i : Nat) : Int) + 1 := IntWalk.i64_in _ (by omega)
        have hiw : IntKind.i64.wrap ((i : Int) + 1) = (i : Int) + 1 := IntWalk.i64_in _ (by omega)
        by_cases hlt : i < 2
        · have hltI : (i : Int) < 2 := by omega
          obtain ⟨c0, c1, c2, f1, f2⟩ := Rp.rtAt hst
          have HS : Hid (St w0 _ (Rp.rt T s (a + 1 + i + 1 : Nat) op :: μ)) := Lib.hid (by rw [Rp.nc]; exact Rp.rtSetA hst (((a + 1 + i : Nat) : Int) + 1))
          have HP3 := Lib.hid (fun w' h' => rPeek_any s (a + 1 + i + 1) op T w0 w' μ h' hs)
          obtain ⟨hz0, hz1⟩ := Rp.pk_bound s (a + 1 + i + 1)
          have HD := Lib.hid (rDigit_any (Rp.pk s (a + 1 + i + 1)) hz0 hz1)
          rw [Rp.hxI_dig] at HD
          obtain ⟨z, hz⟩ : ∃ z, Rp.pk s (a + 1 + i + 1) = z := ⟨_, rfl⟩
          rw [hz] at HD HP3
          clear hst hz hz0 hz1
          obtain ⟨A, hA⟩ : ∃ A : Int, ((a + 1 + i : Nat) : Int) = A := ⟨_, rfl⟩
          rw [hA] at haw3 c1
          cases hd : Rp.dig s (a + 1 + i + 1) with
          | none =>
            rw [hd] at HD
            have hres : r = .error (6, a + 1 + i + 1) := by
              rw [← HR.out]
              unfold Rp.hex
              rcases HC.out with ⟨rfl, -⟩ | ⟨rfl, h1⟩ | ⟨rfl, -⟩
              · rw [show a + 1 + 1 = a + 1 + 0 + 1 from rfl, hd]
              · rw [h1, show a + 1 + 1 + 1 = a + 1 + 1 + 1 from rfl, hd]
              · omega
            subst hres
            clear hd
            go_wp2_with (fail)
            go_at_call 120
            rw [← hA] at *
            refine (HP3.out _ HS.out).mono ?_
            rintro ex w3 ⟨rfl, hst⟩
            go_wp2_with (fail)
            go_at_call 227
            refine (HD.out _).mono ?_
            rintro ex w4 ⟨rfl, rfl⟩
            go_wp2_with (fail)
            go_at_call 56
            refine (rWrong_any s (a + 1 + i + 1 : Nat) op T w0 _ μ hst).mono ?_
            rintro ex w5 ⟨g, rfl, hst2⟩
            have HS9 := Lib.hid hst2
            clear hst hst2 HS c0 c1 c2 f1 f2
            go_wp2
            go_ret2
            exact ⟨g, _, rfl, HS9.out⟩
          | some d =>
            rw [hd] at HD
            have hd16 := Rp.dig_lt hd
            have hn16 : n < 16 := by
              rcases HC.out with ⟨-, rfl⟩ | ⟨-, h1⟩ | ⟨rfl, -⟩
              · decide
              · exact (Rp.dig_lt h1).2
              · omega
            have hmul : IntKind.i64.wrap (IntKind.i64.wrap ((n : Int) * 16) + (d : Int)) = ((16 * n + d : Nat) : Int) := by rw [IntWalk.i64_in ((n : Int) * 16) (by omega), IntWalk.i64_in _ (by omega)]; omega
            have hmul1 : IntKind.i64.wrap ((n : Int) * 16) = (n : Int) * 16 := IntWalk.i64_in _ (by omega)
            have hmul2 : IntKind.i64.wrap ((n : Int) * 16 + (d : Int)) = ((16 * n + d : Nat) : Int) := by rw [IntWalk.i64_in _ (by omega)]; omega
            have hd0 : ¬ (d : Int) < 0 := by omega
            have HC2 : Hid ((i + 1 = 0 ∧ 16 * n + d = 0) ∨ (i + 1 = 1 ∧ Rp.dig s (a + 1 + 1) = some (16 * n + d)) ∨ (i + 1 = 2 ∧ ∃ h l, Rp.dig s (a + 1 + 1) = some h ∧ Rp.dig s (a + 1 + 2) = some l ∧ 16 * n + d = 16 * h + l)) := Lib.hid (by
              rcases HC.out with ⟨rfl, rfl⟩ | ⟨rfl, h1⟩ | ⟨rfl, -⟩
              · refine .inr (.inl ⟨rfl, ?_⟩)
                rw [show 16 * 0 + d = d by omega]
                exact hd
              · exact .inr (.inr ⟨rfl, n, d, h1, hd, rfl⟩)
              · omega)
            have hn256 : 16 * n + d < 256 := by omega
            clear hd hd16 hn16
            generalize (16 * n + d : Nat) = m at *
            go_wp2_with (fail)
            go_at_call 120
            rw [← hA] at *
            refine (HP3.out _ HS.out).mono ?_
            rintro ex w3 ⟨rfl, hst⟩
            go_wp2_with (fail)
            go_at_call 227
            refine (HD.out _).mono ?_
            rintro ex w4 ⟨rfl, rfl⟩
            go_wp2_with (fail)
            go_at_call 120
            refine (HP3.out _ hst).mono ?_
            clear hst
            rintro ex w5 ⟨rfl, hst⟩
            go_wp2_with (fail)
            go_at_call 227
            refine (HD.out _).mono ?_
            rintro ex w6 ⟨rfl, rfl⟩
            have HS9 := Lib.hid hst
            clear hst HS c0 c1 c2 f1 f2
            go_wp2
            go_roundg (2 - (i + 1))
            case measure => have := HGK.out; omega
            case rel => exact ⟨i + 1, m, by go_num, rfl, rfl, hn256, HC2, by omega, HS9.out⟩
        · obtain rfl : i = 2 := by omega
          obtain ⟨h1, l1, hd1, hd2, hnn⟩ : ∃ h l, Rp.dig s (a + 1 + 1) = some h ∧ Rp.dig s (a + 1 + 2) = some l ∧ n = 16 * h + l := by
            rcases HC.out with ⟨h, -⟩ | ⟨h, -⟩ | ⟨-, h⟩
            · cases h
            · cases h
            · exact h
          have hres : r = .ok (n, a + 1 + 1 + 2) := by
            rw [← HR.out]
            unfold Rp.hex
            rw [hd1]
            simp only
            rw [show a + 1 + 1 + 1 = a + 1 + 2 from rfl, hd2, hnn]
          subst hres
          clear hd1 hd2 hnn
          obtain ⟨c0, c1, c2, f1, f2⟩ := Rp.rtAt hst
          have HS : Hid (St w0 _ (Rp.rt T s (a + 1 + 2 + 1 : Nat) op :: μ)) := Lib.hid (by rw [Rp.nc]; exact Rp.rtSetA hst (((a + 1 + 2 : Nat) : Int) + 1))
          obtain ⟨A, hA⟩ : ∃ A : Int, ((a + 1 + 2 : Nat) : Int) = A := ⟨_, rfl⟩
          rw [hA] at haw3 c1 HS
          clear hst
          go_wp2
          go_ret2
          exact ⟨rfl, HS.out⟩
    rw [if_neg k120] at hr
    have e120 : (q == 120) = false := by rw [beq_eq_false_iff_ne]; exact k120
    cases hsg : Rp.sgI q with
    | true =>
      rw [if_pos hsg] at hr
      subst hr
      have HSG := Lib.hid (rSign_any q)
      rw [hsg] at HSG
      have hqn : ((q.toNat : Nat) : Int) = q := by
        by_cases h : q = -1
        · rw [h] at hsg; exact absurd hsg (by decide)
        · omega
      show Calls _ _ _ _ fun ex w' => ex = .returned (.tuple #[.int .i64 (q.toNat : Int), .pointer none]) ∧ St w0 w' (Rp.rt T s (a + 1 + 1 : Nat) op :: μ)
      rw [hqn, Rp.nc, Rp.nc]
      clear k110 k116 k115 k120 hsg hqn
      go_enter Try.func212, Try.ntmps212
      go_wp2_with (fail)
      go_at_call 120
      refine HPK.out.mono ?_
      rintro ex w1 ⟨rfl, hst⟩
      obtain ⟨c0, c1, c2, f1, f2⟩ := Rp.rtAt hst
      have HS : Hid (St w0 _ (Rp.rt T s (a + 1 : Nat) op :: μ)) := Lib.hid (by rw [Rp.nc]; exact Rp.rtSetA hst ((a : Int) + 1))
      clear hst
      go_wp2_with (fail)
      go_at_call 120
      refine (HP2.out _ HS.out).mono ?_
      clear c0 c1 c2 f1 f2 HS
      rintro ex w2 ⟨rfl, hst⟩
      obtain ⟨c0, c1, c2, f1, f2⟩ := Rp.rtAt hst
      rw [Rp.nc] at c1
      go_wp2_with (fail)
      go_at_call 226
      refine (HSG.out _).mono ?_
      rintro ex w3 ⟨rfl, rfl⟩
      have HE := Lib.hid (Rp.rtSetA hst ((a : Int) + 1 + 1))
      clear hst
      go_wp2
      go_ret2
      exact ⟨rfl, HE.out⟩
    | false =>
      rw [if_neg (by rw [hsg]; decide)] at hr
      subst hr
      have HSG := Lib.hid (rSign_any q)
      rw [hsg] at HSG
      show Calls _ _ _ _ fun ex w' => ∃ (g : Nat) (a' : Int), ex = .returned (.tuple #[.int .i64 0, .pointer (some ⟨g, 0, none⟩)]) ∧ St w0 w' (Rp.sp g 6 (a + 1 : Nat) :: Rp.rt T s a' op :: μ)
      clear k110 k116 k115 k120 hsg
      go_enter Try.func212, Try.ntmps212
      go_wp2_with (fail)
      go_at_call 120
      refine HPK.out.mono ?_
      rintro ex w1 ⟨rfl, hst⟩
      obtain ⟨c0, c1, c2, f1, f2⟩ := Rp.rtAt hst
      have HS : Hid (St w0 _ (Rp.rt T s (a + 1 : Nat) op :: μ)) := Lib.hid (by rw [Rp.nc]; exact Rp.rtSetA hst ((a : Int) + 1))
      clear hst
      go_wp2_with (fail)
      go_at_call 120
      refine (HP2.out _ HS.out).mono ?_
      clear c0 c1 c2 f1 f2 HS
      rintro ex w2 ⟨rfl, hst⟩
      obtain ⟨c0, c1, c2, f1, f2⟩ := Rp.rtAt hst
      rw [Rp.nc] at c1
      go_wp2_with (fail)
      go_at_call 226
      refine (HSG.out _).mono ?_
      rintro ex w3 ⟨rfl, rfl⟩
      go_wp2_with (fail)
      go_at_call 56
      refine (rWrong_any s (a + 1 : Nat) op T w0 _ μ hst).mono ?_
      rintro ex w5 ⟨g, rfl, hst2⟩
      have HS9 := Lib.hid hst2
      clear hst hst2 c0 c1 c2 f1 f2
      go_wp2
      go_ret2
      exact ⟨g, _, rfl, HS9.out⟩
  · rw [if_neg k92] at hr
    have e92 : (p != 92) = true := by rw [bne_iff_ne]; exact k92
    by_cases k3 : p < 33 ∨ 126 < p ∨ Rp.sgI p = true
    · rw [if_pos k3] at hr
      subst hr
      show Calls _ _ _ _ fun ex w' => ∃ (g : Nat) (a' : Int), ex = .returned (.tuple #[.int .i64 0, .pointer (some ⟨g, 0, none⟩)]) ∧ St w0 w' (Rp.sp g 6 a :: Rp.rt T s a' op :: μ)
      have HS3 := Lib.hid (rSign_any p)
      by_cases h33 : p < 33
      · have d33 : decide (p < 33) = true := decide_eq_true h33
        clear k3 k92
        go_enter Try.func212, Try.ntmps212
        go_wp2_with (fail)
        go_at_call 120
        refine HPK.out.mono ?_
        rintro ex w1 ⟨rfl, hst⟩
        go_wp2_with (fail)
        go_at_call 56
        refine (rWrong_any s a op T w0 w1 μ hst).mono ?_
        rintro ex w2 ⟨g, rfl, hst2⟩
        have HS := Lib.hid hst2
        clear hst hst2
        go_wp2
        go_ret2
        exact ⟨g, a, rfl, HS.out⟩
      · have d33 : decide (p < 33) = false := decide_eq_false h33
        by_cases h126 : 126 < p
        · have d126 : decide (126 < p) = true := decide_eq_true h126
          clear k3 k92
          go_enter Try.func212, Try.ntmps212
          go_wp2_with (fail)
          go_at_call 120
          refine HPK.out.mono ?_
          rintro ex w1 ⟨rfl, hst⟩
          go_wp2_with (fail)
          go_at_call 56
          refine (rWrong_any s a op T w0 w1 μ hst).mono ?_
          rintro ex w2 ⟨g, rfl, hst2⟩
          have HS := Lib.hid hst2
          clear hst hst2
          go_wp2
          go_ret2
          exact ⟨g, a, rfl, HS.out⟩
        · have d126 : decide (126 < p) = false := decide_eq_false h126
          rw [show Rp.sgI p = true from by rcases k3 with h | h | h; exact absurd h h33; exact absurd h h126; exact h] at HS3
          clear k3 k92
          go_enter Try.func212, Try.ntmps212
          go_wp2_with (fail)
          go_at_call 120
          refine HPK.out.mono ?_
          rintro ex w1 ⟨rfl, hst⟩
          go_wp2_with (fail)
          go_at_call 226
          refine (HS3.out _).mono ?_
          rintro ex w2 ⟨rfl, rfl⟩
          go_wp2_with (fail)
          go_at_call 56
          refine (rWrong_any s a op T w0 _ μ hst).mono ?_
          rintro ex w2 ⟨g, rfl, hst2⟩
          have HS := Lib.hid hst2
          clear hst hst2
          go_wp2
          go_ret2
          exact ⟨g, a, rfl, HS.out⟩
    · rw [if_neg k3] at hr
      subst hr
      have h33 : ¬ p < 33 := fun h => k3 (.inl h)
      have h126 : ¬ 126 < p := fun h => k3 (.inr (.inl h))
      have hsg : Rp.sgI p = false := by
        cases hh : Rp.sgI p with
        | true => exact absurd (.inr (.inr hh)) k3
        | false => rfl
      have d33 : decide (p < 33) = false := decide_eq_false h33
      have d126 : decide (126 < p) = false := decide_eq_false h126
      have HS3 := Lib.hid (rSign_any p)
      rw [hsg] at HS3
      have hpn : ((p.toNat : Nat) : Int) = p := by omega
      show Calls _ _ _ _ fun ex w' => ex = .returned (.tuple #[.int .i64 (p.toNat : Int), .pointer none]) ∧ St w0 w' (Rp.rt T s (a + 1 : Nat) op :: μ)
      rw [hpn, Rp.nc]
      clear k3 k92 hsg hpn
      go_enter Try.func212, Try.ntmps212
      go_wp2_with (fail)
      go_at_call 120
      refine HPK.out.mono ?_
      rintro ex w1 ⟨rfl, hst⟩
      go_wp2_with (fail)
      go_at_call 226
      refine (HS3.out _).mono ?_
      rintro ex w2 ⟨rfl, rfl⟩
      obtain ⟨c0, c1, c2, f1, f2⟩ := Rp.rtAt hst
      have HE := Lib.hid (Rp.rtSetA hst ((a : Int) + 1))
      clear hst
      go_wp2
      go_ret2
      exact ⟨rfl, HE.out⟩
end Go.Proofs.Ytfelikfppjlcmaa

/-
  The reference's reader of regular expressions: class.
-/
namespace Go.Proofs.Ytfelikfppjlcmaa
set_option linter.unusedVariables false
set_option linter.unusedSimpArgs false
open Go.ChangeShapes Go.WideShapes Go.ChangeAt Go.RowKit

namespace Rp
def one (p : Set) (b : Nat) : Int := if p b = true then 1 else 0
/-- Bytes as an array of 256 numbers. -/
def inA (p : Set) : Array Value := ((List.range 256).map fun b => Value.int .i64 (one p b)).toArray
theorem inA_get {p : Set} {b : Nat} (h : b < 256) : (inA p)[b]? = some (.int .i64 (one p b)) := by
  unfold inA
  rw [List.getElem?_toArray, List.getElem?_map, List.getElem?_range h]
  rfl
theorem inA_set {p q : Set} {b : Nat} (hb : b < 256) (h : ∀ x, x < 256 → q x = (p x || decide (x = b))) : (inA p).setIfInBounds b (.int .i64 1) = inA q := by
  apply Array.toList_inj.1
  unfold inA
  rw [Array.toList_setIfInBounds]
  apply List.ext_getElem
  · simp
  · intro i h1 h2
    have hi : i < 256 := by simpa using h2
    rw [List.getElem_set]
    split
    · rename_i e
      subst e
      simp only [List.getElem_map, List.getElem_range]
      unfold one
      rw [h b hb, decide_eq_true rfl, Bool.or_true, if_pos rfl]
    · rename_i e
      simp only [List.getElem_map, List.getElem_range]
      unfold one
      rw [h i hi, decide_eq_false (fun h => e h.symm), Bool.or_false]
theorem inA_size (p : Set) : (inA p).size = 256 := by simp [inA]
theorem inA_zero : inA (fun _ => false) = Try.zeroCells336 := by kernel_rfl
attribute [irreducible] inA
theorem one_eq (p : Set) (b : Nat) : (one p b == 1) = p b := by unfold one; cases p b <;> rfl
end Rp

set_option maxRecDepth 100000 in
theorem rrClo_any (p : Rp.Set) (nt : Bool) (w0 : World) (gi gn : Nat) : Cs.Tells 225 #[.pointer (some ⟨gi, 0, none⟩), .pointer (some ⟨gn, 0, none⟩)] (fun b => p b != nt) w0 [aCel gi 336 (Rp.inA p), aCel gn 4 #[.bool nt]] := by
  intro x hx W ν h
  have h1 := (h.pick (ρ := [aCel gi 336 (Rp.inA p), aCel gn 4 #[.bool nt]]) [ν.length, ν.length + 1] (ν.length + 2) (by simp [picks]) (by simp))
  have c0 := h1.celAt (Rp.inA_get hx)
  have c1 := (h1.nth 1 rfl).celAt (i := 0) (v := .bool nt) rfl
  have HB := Lib.hid (fun n => below_drewN (Below.refl W.heap.size W) n)
  have hx2 : (x : Int) < 256 := by omega
  have hx0 : (0 : Int) ≤ (x : Int) := by omega
  have ho := Rp.one_eq p x
  generalize Rp.one p x = y at *
  have hst : (Cs.Tells = Cs.Tells) := rfl
  clear hst
  show Calls Try.prog 225 #[.int .i64 x, .pointer (some ⟨gi, 0, none⟩), .pointer (some ⟨gn, 0, none⟩)] W fun e w' => e = .returned (.bool (p x != nt)) ∧ Below W.heap.size W w'
  generalize p x = B at *
  clear h h1
  show Calls Try.prog 225 #[.int .i64 x, .pointer (some ⟨gi, 0, none⟩), .pointer (some ⟨gn, 0, none⟩)] W fun e w' => e = .returned (.bool (B != nt)) ∧ Below W.heap.size W w'
  go_enter Try.func225, Try.ntmps225
  go_wp2
  go_quiet (fail)
  have HQ := Lib.hid (HB.out nq)
  go_wp2
  go_ret
  exact ⟨by cases B <;> cases nt <;> rfl, HQ.out⟩

namespace Rp
def LeftRC (T : Nat) (s : ByteArray) (op : Int) (w0 : World) (μ : List Asrt) (r : Re (List Nat)) (ex : Ending) (w' : World) : Prop :=
  match r with
  | .ok (c, b) => ex = .returned (.tuple #[Cs.clV c, .pointer none]) ∧ St w0 w' (rt T s b op :: μ)
  | .error (e, p) => ∃ (g : Nat) (a' : Int), ex = .returned (.tuple #[Cs.clV Dm.zero, .pointer (some ⟨g, 0, none⟩)]) ∧ St w0 w' (sp g e p :: rt T s a' op :: μ)
theorem belowAt {w0 w : World} {μ : List Asrt} {g : Nat} {T : TypeId} {cs : Array Value} (h : St w0 w μ) (i : Nat) (hA : μ[i]? = some (aCel g T cs)) : g < w.heap.size := ((h.nth i hA).lo _ (.head _) g (by simp [aCel])).2
def NotEnd (s : ByteArray) (a n : Nat) (nt : Bool) : Prop := ¬ (pk s a = 93 ∧ (0 < n ∨ nt = true))
theorem eqz0 (W : World) : (Op.equalIn 10000 24 (.agg #[.int .u64 0, .int .u64 0, .int .u64 0, .int .u64 0]) (.agg #[.int .u64 0, .int .u64 0, .int .u64 0, .int .u64 0])).run Try.prog W = .ok true W := (Rx.eqz (a0 := 0) (a1 := 0) (a2 := 0) (a3 := 0) W).trans (by rw [show decide (([0, 0, 0, 0] : List Nat) = Dm.zero) = true from rfl])
theorem at4z {w0 w : World} {μ : List Asrt} {g : Nat} {T : TypeId} (h : St w0 w μ) (i : Nat) (hA : μ[i]? = some (aCel g T (Cs.clA Dm.zero))) :
    w.cell? ⟨g, 0, none⟩ = some (.int .u64 0) ∧ w.cell? ⟨g, 1, none⟩ = some (.int .u64 0) ∧ w.cell? ⟨g, 2, none⟩ = some (.int .u64 0) ∧ w.cell? ⟨g, 3, none⟩ = some (.int .u64 0) := Cs.at4 (a := 0) (b := 0) (c := 0) (d := 0) h i hA
def RcRel (w0 : World) (T : Nat) (s : ByteArray) (op : Int) (nt : Bool) (μ : List Asrt) (gi gn B : Nat) (RES : Re Set) (gk : Nat) (v6 : Value) (wr : World) : Prop :=
  ∃ (n : Nat) (p : Set) (a f : Nat), v6 = .int .i64 n ∧ a ≤ s.size ∧ n ≤ a ∧ gk = s.size + 1 - a ∧ Hid (cls s nt f n p a = RES) ∧ s.size < a + f ∧ St w0 wr (rt T s a op :: aCel gi 336 (inA p) :: aCel gn 4 #[.bool nt] :: aCel B 24 (Cs.clA Dm.zero) :: μ)
end Rp

set_option maxRecDepth 100000 in
set_option maxHeartbeats 16000000 in
theorem rrClass_any (s : ByteArray) (a : Nat) (op : Int) (ha : a ≤ s.size) (hs : s.size ≤ 300) (T : Nat) (w0 w : World) (μ : List Asrt) (h : St w0 w (Rp.rt T s a op :: μ)) :
    Calls Try.prog 211 #[.pointer (some ⟨T, 0, none⟩)] w (Rp.LeftRC T s op w0 μ (Rp.clsAt s a)) := by
  have HTB := Lib.hid (Rp.belowAt h 0 rfl)
  have hst := (h.alloc (Cs.clA Dm.zero) 24).get2
  have HPK := Lib.hid (rPeek_any s a op T w0 _ _ hst hs)
  clear h hst
  -- where the items begin
  obtain ⟨nt, a1, RES, hnt, hRES, hle, hR⟩ : ∃ (nt : Bool) (a1 : Nat) (RES : Rp.Re Rp.Set), ((Rp.pk s a == 94) = nt ∧ a1 = if nt = true then a + 1 else a) ∧ Rp.clsAt s a = Rp.on RES (Rp.clsEnd nt) ∧ a1 ≤ s.size ∧ Rp.cls s nt (s.size + 1 - a1) 0 (fun _ => false) a1 = RES := by
    by_cases h : Rp.pk s a = 94
    · exact ⟨true, a + 1, _, ⟨by rw [h]; rfl, rfl⟩, by unfold Rp.clsAt; rw [if_pos h], Rp.pk_lt 94 (by decide) h, rfl⟩
    · exact ⟨false, a, _, ⟨by rw [beq_eq_false_iff_ne]; exact h, rfl⟩, by unfold Rp.clsAt; rw [if_neg h], ha, rfl⟩
  obtain ⟨hnt, ha1⟩ := hnt
  rw [hRES]
  have HR := Lib.hid hR
  have HA1 := Lib.hid ha1
  have haw : IntKind.i64.wrap ((a : Int) + 1) = (a : Int) + 1 := IntWalk.i64_in _ (by omega)
  generalize Rp.pk s a = pa at *
  clear hRES hR ha1
  have hrel : ∀ wX gi gn, St w0 wX (Rp.rt T s a1 op :: aCel gi 336 (Rp.inA fun _ => false) :: aCel gn 4 #[.bool nt] :: aCel w.heap.size 24 (Cs.clA Dm.zero) :: μ) → Rp.RcRel w0 T s op nt μ gi gn w.heap.size RES (s.size + 1 - a1) (.int .i64 0) wX :=
    fun wX gi gn h => ⟨0, fun _ => false, a1, s.size + 1 - a1, rfl, hle, Nat.zero_le _, rfl, HR, by omega, h⟩
  have HREL := Lib.hid hrel
  clear hrel HR hle
  go_enter Try.func211, Try.ntmps211
  go_wp2_with (fail)
  go_at_call 120
  refine HPK.out.mono ?_
  rintro ex w1 ⟨rfl, hst⟩
  have hstN := (hst.alloc #[.bool nt] 4).pick [1, 0, 2] 3 (ρ := Rp.rt T s a op :: aCel w1.heap.size 4 #[.bool nt] :: aCel w.heap.size 24 (Cs.clA Dm.zero) :: μ) rfl rfl
  obtain ⟨c0, c1, c2, f1, f2⟩ := Rp.rtAt hstN
  have n0 := (hstN.nth 1 rfl).celAt (i := 0) rfl
  have hgo : ∃ w2, St w0 w2 (Rp.rt T s a1 op :: aCel w1.heap.size 4 #[.bool nt] :: aCel w.heap.size 24 (Cs.clA Dm.zero) :: μ) ∧ w2 = if nt = true then ((w1.alloc (.cells #[.bool nt] 4)).setCell ⟨T, 1, none⟩ (.int .i64 ((a : Int) + 1))) else w1.alloc (.cells #[.bool nt] 4) := by
    refine ⟨_, ?_, rfl⟩
    rw [HA1.out]
    cases nt with
    | true =>
      rw [if_pos rfl, if_pos rfl, Rp.nc]
      exact Rp.rtSetA hstN _
    | false =>
      rw [if_neg (by decide), if_neg (by decide)]
      exact hstN
  obtain ⟨w2, hst2, hw2⟩ := hgo
  have hst3 := (hst2.alloc (Rp.inA fun _ => false) 336).get2
  have hsz : w2.heap.size = w1.heap.size + 1 := by rw [hw2]; split <;> simp
  rw [Rp.inA_zero, hsz] at hst3
  clear hsz
  clear hst hstN HPK HA1

  cases nt with
  | true =>
    rw [if_pos rfl] at hw2
    subst hw2
    have HST3 := Lib.hid hst3
    have HREL0 := Lib.hid (HREL.out _ _ _ (by rw [Rp.inA_zero]; exact hst3.pick [0, 1, 2, 3] 4 rfl rfl))
    clear hst2 hst3 HST3
    go_wp2_with (fail)
    clear c0 c1 c2 f1 f2 n0
    go_loopg [6] (s.size + 1 - a1) (fun gk v6 wr => Rp.RcRel w0 T s op true μ (w1.heap.size + 1) w1.heap.size w.heap.size RES gk v6 wr)
    case atStart => exact HREL0.out
    case round =>
      clear HREL0 HREL
      obtain ⟨n, p, a, f, rfl, ha, hna, hgk, HRES0, hf, hst⟩ := hrel
      obtain ⟨f, rfl⟩ : ∃ f', f = f' + 1 := ⟨f - 1, by omega⟩
      have HGK := Lib.hid hgk
      clear hgk
      have HS := Lib.hid hst
      have n0 := (hst.nth 2 rfl).celAt (i := 0) (v := .bool true) rfl
      clear hst
      have hnI : IntKind.i64.wrap ((n : Int) + 1) = (n : Int) + 1 := IntWalk.i64_in _ (by omega)
      by_cases h93 : Rp.pk s a = 93
      · by_cases hend : 0 < n ∨ true = true
        · have hres := HRES0.out
          rw [Rp.cls_end ⟨h93, hend⟩] at hres
          subst hres
          have hpk93 := h93
          have HPK := Lib.hid (rPeek_any s a op T w0 _ _ HS.out hs)
          rw [h93] at HPK
          by_cases hn0 : n = 0
          · subst hn0
            go_wp2_with (fail)
            go_at_call 120
            refine HPK.out.mono ?_
            clear HPK
            rintro ex w3 ⟨rfl, hst⟩
            have HS := Lib.hid hst
            have n0 := (hst.nth 2 rfl).celAt (i := 0) (v := .bool true) rfl
            clear hst h93
            have HW := Lib.hid (fun W h => rWhere_any 225 #[.pointer (some ⟨w1.heap.size + 1, 0, none⟩), .pointer (some ⟨w1.heap.size, 0, none⟩)] (fun b => p b != true) w0 W [aCel (w1.heap.size + 1) 336 (Rp.inA p), aCel w1.heap.size 4 #[.bool true]] (rrClo_any p true w0 _ _) (Fc.callC2 Try.func225 (by kernel_rfl) (by kernel_rfl)) h)
            obtain ⟨q0, q1, q2, q3, hq⟩ := Cs.okFour (Rp.ok4_cls true p)
            have hqv : Cs.clV (Cs.of fun b => p b != true) = .agg #[.int .u64 q0, .int .u64 q1, .int .u64 q2, .int .u64 q3] := by rw [show (Cs.of fun b => p b != true) = [q0, q1, q2, q3] from hq]; rfl
            rw [hqv] at HW
            have HEQ := fun W => Rx.eqz (a0 := q0) (a1 := q1) (a2 := q2) (a3 := q3) W
            have HQ := Lib.hid hq
            clear hq hqv
            go_wp2_with (fail)
            go_at_call 209
            refine (HW.out _ (HS.out.pick (ρ := [aCel (w1.heap.size + 1) 336 (Rp.inA p), aCel w1.heap.size 4 #[.bool true]]) [1, 2] (μ.length + 4) (by simp [picks]) (by simp))).mono ?_
            rintro ex w9 ⟨rfl, hb9⟩
            have HSW := HS
            have HB9 := Lib.hid hb9
            have HS := Lib.hid (((HS.out.call hb9).alloc #[.int .u64 (q0 : Int), .int .u64 (q1 : Int), .int .u64 (q2 : Int), .int .u64 (q3 : Int)] 24).pick [1, 0, 4] 5 (ρ := Rp.rt T s a op :: aCel w9.heap.size 24 (Cs.clA [q0, q1, q2, q3]) :: aCel w.heap.size 24 (Cs.clA Dm.zero) :: μ) rfl rfl)
            clear hb9
            obtain ⟨x0, x1, x2, x3⟩ := Rp.at4z HS.out 2 rfl
            have v0 := (HS.out.nth 2 rfl).celFree 0
            have v1 := (HS.out.nth 2 rfl).celFree 1
            have v2 := (HS.out.nth 2 rfl).celFree 2
            have v3 := (HS.out.nth 2 rfl).celFree 3
            obtain ⟨c0, c1, c2, f1, f2⟩ := Rp.rtAt HS.out
            by_cases hz : Rp.clsW true p = Dm.zero
            · clear HEQ
              have HEQ := Rp.eqz0
              have hz2 : Rp.clsW true p = Dm.zero := hz
              rw [HQ.out] at hz2
              unfold Dm.zero at hz2
              simp only [List.cons.injEq, and_true] at hz2
              obtain ⟨rfl, rfl, rfl, rfl⟩ := hz2
              have HS0 : Hid (St w0 (w9.alloc (.cells #[.int .u64 0, .int .u64 0, .int .u64 0, .int .u64 0] 24)) (Rp.rt T s a op :: aCel w9.heap.size 24 (Cs.clA Dm.zero) :: aCel w.heap.size 24 (Cs.clA Dm.zero) :: μ)) := HS
              clear HS c0 c1 c2 f1 f2 x0 x1 x2 x3 v0 v1 v2 v3
              have HS := HS0
              clear HS0
              obtain ⟨c0, c1, c2, f1, f2⟩ := Rp.rtAt HS.out
              obtain ⟨x0, x1, x2, x3⟩ := Rp.at4z HS.out 2 rfl
              have HRES2 := Lib.hid (show Rp.on (Except.ok (p, a) : Rp.Re Rp.Set) (Rp.clsEnd true) = .error (6, a) by simp only [Rp.on]; unfold Rp.clsEnd; rw [if_pos hz])
              clear hz
              obtain ⟨z0, z1, z2, z3⟩ := Rp.at4z HS.out 1 rfl
              have HSD := Lib.hid HS.out.drew
              obtain ⟨z0d, z1d, z2d, z3d⟩ := Rp.at4z HSD.out 1 rfl
              go_wp2_with (fail)
              refine wp_region_held_drew (S := (fun w' => w'.cell? ⟨w9.heap.size, 0, none⟩ = some (.int .u64 0) ∧ w'.cell? ⟨w9.heap.size, 1, none⟩ = some (.int .u64 0) ∧ w'.cell? ⟨w9.heap.size, 2, none⟩ = some (.int .u64 0) ∧ w'.cell? ⟨w9.heap.size, 3, none⟩ = some (.int .u64 0))) (by kernel_rfl) ?_ (fun hHeld => ?_)
              · (try dsimp only); (first | with_reducible exact ⟨z0e, z1e, z2e, z3e⟩ | with_reducible exact ⟨z0f, z1f, z2f, z3f⟩ | exact ⟨z0d, z1d, z2d, z3d⟩)

              refine wpAnyH_take (i := 0) (v := ?_) rfl (by kernel_rfl) (by kernel_rfl) (by kernel_rfl) (fun _ _ _ h => h) (Or.inl ⟨by rfl, ?_⟩) (by assumption) ?_
              rotate_left; focus (intro w hSw; (try dsimp only at hSw); go_simp; try (with_reducible rfl); done)
              try simp only [List.getElem_toArray, List.getElem_cons_zero, List.getElem_cons_succ, Act.put, List.setIfInBounds_toArray, List.set_cons_zero, List.set_cons_succ]
              refine wpAnyH_take (i := 1) (v := ?_) rfl (by kernel_rfl) (by kernel_rfl) (by kernel_rfl) (fun _ _ _ h => h) (Or.inl ⟨by rfl, ?_⟩) (by assumption) ?_
              rotate_left; focus (intro w hSw; (try dsimp only at hSw); go_simp; try (with_reducible rfl); done)
              try simp only [List.getElem_toArray, List.getElem_cons_zero, List.getElem_cons_succ, Act.put, List.setIfInBounds_toArray, List.set_cons_zero, List.set_cons_succ]
              refine wpAnyH_ready (rs := [2]) (by kernel_rfl) (by simp) ?_
              refine AllReadyH.cons rfl (fun K hK => ?_) AllReadyH.nil
              go_simp
              (go_at_call 56; refine (rWrong_any s a op T w0 _ _ HSD.out).mono ?_; rintro ex w8 ⟨g, rfl, hst⟩; obtain ⟨z0e, z1e, z2e, z3e⟩ := Rp.at4z hst 2 rfl; obtain ⟨x0, x1, x2, x3⟩ := Rp.at4z hst 3 rfl; have v0 := (hst.nth 3 rfl).celFree 0; have v1 := (hst.nth 3 rfl).celFree 1; have v2 := (hst.nth 3 rfl).celFree 2; have v3 := (hst.nth 3 rfl).celFree 3; have HS9 := Lib.hid (((((hst.pick [3, 0, 1, 2] 4 (ρ := aCel w.heap.size 24 (Cs.clA Dm.zero) :: Rp.sp g 6 a :: Rp.rt T s a op :: aCel w9.heap.size 24 (Cs.clA Dm.zero) :: μ) rfl rfl).setCel 0 (.int .u64 0)).setCel 1 (.int .u64 0)).setCel 2 (.int .u64 0)).setCel 3 (.int .u64 0)); obtain ⟨z0f, z1f, z2f, z3f⟩ := Rp.at4z HS9.out 3 rfl; clear hst)
              refine hK.out _ _ ?_ (fun hHeld => ?_)
              · (try dsimp only); (first | with_reducible exact ⟨z0e, z1e, z2e, z3e⟩ | with_reducible exact ⟨z0f, z1f, z2f, z3f⟩ | exact ⟨z0d, z1d, z2d, z3d⟩)
              clear hK K
              try simp only [List.getElem_toArray, List.getElem_cons_zero, List.getElem_cons_succ, Act.put, List.setIfInBounds_toArray, List.set_cons_zero, List.set_cons_succ]
              refine wpAnyH_ready (rs := [3]) (by kernel_rfl) (by simp) ?_
              refine AllReadyH.cons rfl (fun K hK => ?_) AllReadyH.nil
              go_simp
              refine hK.out _ _ ?_ (fun hHeld => ?_)
              · (try dsimp only); (first | with_reducible exact ⟨z0e, z1e, z2e, z3e⟩ | with_reducible exact ⟨z0f, z1f, z2f, z3f⟩ | exact ⟨z0d, z1d, z2d, z3d⟩)
              clear hK K
              try simp only [List.getElem_toArray, List.getElem_cons_zero, List.getElem_cons_succ, Act.put, List.setIfInBounds_toArray, List.set_cons_zero, List.set_cons_succ]
              refine wpAnyH_take (i := 4) (v := ?_) rfl (by kernel_rfl) (by kernel_rfl) (by kernel_rfl) (fun _ _ _ h => h) (Or.inl ⟨by rfl, ?_⟩) (by assumption) ?_
              rotate_left; focus (intro w hSw; (try dsimp only at hSw); go_simp; try (with_reducible rfl); done)
              try simp only [List.getElem_toArray, List.getElem_cons_zero, List.getElem_cons_succ, Act.put, List.setIfInBounds_toArray, List.set_cons_zero, List.set_cons_succ]
              refine wpAnyH_done (by kernel_rfl) ?_ _
              go_wp2
              refine bodyPost_ret (results_row_tmp rfl _ _ w.heap.size 24 _ _ rfl (HS9.out.heapAt 0 rfl) Try.underlying24 rfl (by kernel_rfl)) rfl ?_
              rw [HRES2.out]
              exact ⟨g, a, rfl, HS9.out.pick [1, 2] 4 rfl rfl⟩
            · rw [decide_eq_false (by rw [← HQ.out]; exact hz)] at HEQ
              have HRES2 := Lib.hid (show Rp.on (Except.ok (p, a) : Rp.Re Rp.Set) (Rp.clsEnd true) = .ok ([q0, q1, q2, q3], a + 1) by simp only [Rp.on]; unfold Rp.clsEnd; rw [if_neg hz, HQ.out])
              clear hz
              have haw9 : IntKind.i64.wrap ((a : Int) + 1) = (a : Int) + 1 := IntWalk.i64_in _ (by omega)
              obtain ⟨z0, z1, z2, z3⟩ := Cs.at4 HS.out 1 rfl
              have hne : ¬ T = w9.heap.size := by have h1 := Rp.belowAt HSW.out 0 rfl; have h2 := HB9.out.size; omega
              have hne2 : ¬ T = w.heap.size := by have := HTB.out; omega
              have hne3 : ¬ w.heap.size = T := fun e => hne2 e.symm
              have hS3 := Rp.rtSetA HS.out ((a : Int) + 1)
              have HS9 := Lib.hid (((((hS3.pick [2, 0] 3 (ρ := aCel w.heap.size 24 (Cs.clA Dm.zero) :: Rp.rt T s ((a : Int) + 1) op :: μ) rfl rfl).setCel 0 (.int .u64 q0)).setCel 1 (.int .u64 q1)).setCel 2 (.int .u64 q2)).setCel 3 (.int .u64 q3))
              clear hS3 HS
              go_wp2
              refine bodyPost_ret (results_row_tmp rfl _ _ w.heap.size 24 _ _ rfl (HS9.out.heapAt 0 rfl) Try.underlying24 rfl (by kernel_rfl)) rfl ?_
              rw [HRES2.out]
              refine ⟨rfl, ?_⟩
              rw [Rp.nc]
              exact HS9.out.drop
          · have hn0I : ((n : Int) == 0) = false := by rw [beq_eq_false_iff_ne]; omega
            go_wp2_with (fail)
            go_at_call 120
            refine HPK.out.mono ?_
            clear HPK
            rintro ex w3 ⟨rfl, hst⟩
            have HS := Lib.hid hst
            have n0 := (hst.nth 2 rfl).celAt (i := 0) (v := .bool true) rfl
            clear hst h93
            have HW := Lib.hid (fun W h => rWhere_any 225 #[.pointer (some ⟨w1.heap.size + 1, 0, none⟩), .pointer (some ⟨w1.heap.size, 0, none⟩)] (fun b => p b != true) w0 W [aCel (w1.heap.size + 1) 336 (Rp.inA p), aCel w1.heap.size 4 #[.bool true]] (rrClo_any p true w0 _ _) (Fc.callC2 Try.func225 (by kernel_rfl) (by kernel_rfl)) h)
            obtain ⟨q0, q1, q2, q3, hq⟩ := Cs.okFour (Rp.ok4_cls true p)
            have hqv : Cs.clV (Cs.of fun b => p b != true) = .agg #[.int .u64 q0, .int .u64 q1, .int .u64 q2, .int .u64 q3] := by rw [show (Cs.of fun b => p b != true) = [q0, q1, q2, q3] from hq]; rfl
            rw [hqv] at HW
            have HEQ := fun W => Rx.eqz (a0 := q0) (a1 := q1) (a2 := q2) (a3 := q3) W
            have HQ := Lib.hid hq
            clear hq hqv
            go_wp2_with (fail)
            go_at_call 209
            refine (HW.out _ (HS.out.pick (ρ := [aCel (w1.heap.size + 1) 336 (Rp.inA p), aCel w1.heap.size 4 #[.bool true]]) [1, 2] (μ.length + 4) (by simp [picks]) (by simp))).mono ?_
            rintro ex w9 ⟨rfl, hb9⟩
            have HSW := HS
            have HB9 := Lib.hid hb9
            have HS := Lib.hid (((HS.out.call hb9).alloc #[.int .u64 (q0 : Int), .int .u64 (q1 : Int), .int .u64 (q2 : Int), .int .u64 (q3 : Int)] 24).pick [1, 0, 4] 5 (ρ := Rp.rt T s a op :: aCel w9.heap.size 24 (Cs.clA [q0, q1, q2, q3]) :: aCel w.heap.size 24 (Cs.clA Dm.zero) :: μ) rfl rfl)
            clear hb9
            obtain ⟨x0, x1, x2, x3⟩ := Rp.at4z HS.out 2 rfl
            have v0 := (HS.out.nth 2 rfl).celFree 0
            have v1 := (HS.out.nth 2 rfl).celFree 1
            have v2 := (HS.out.nth 2 rfl).celFree 2
            have v3 := (HS.out.nth 2 rfl).celFree 3
            obtain ⟨c0, c1, c2, f1, f2⟩ := Rp.rtAt HS.out
            by_cases hz : Rp.clsW true p = Dm.zero
            · clear HEQ
              have HEQ := Rp.eqz0
              have hz2 : Rp.clsW true p = Dm.zero := hz
              rw [HQ.out] at hz2
              unfold Dm.zero at hz2
              simp only [List.cons.injEq, and_true] at hz2
              obtain ⟨rfl, rfl, rfl, rfl⟩ := hz2
              have HS0 : Hid (St w0 (w9.alloc (.cells #[.int .u64 0, .int .u64 0, .int .u64 0, .int .u64 0] 24)) (Rp.rt T s a op :: aCel w9.heap.size 24 (Cs.clA Dm.zero) :: aCel w.heap.size 24 (Cs.clA Dm.zero) :: μ)) := HS
              clear HS c0 c1 c2 f1 f2 x0 x1 x2 x3 v0 v1 v2 v3
              have HS := HS0
              clear HS0
              obtain ⟨c0, c1, c2, f1, f2⟩ := Rp.rtAt HS.out
              obtain ⟨x0, x1, x2, x3⟩ := Rp.at4z HS.out 2 rfl
              have HRES2 := Lib.hid (show Rp.on (Except.ok (p, a) : Rp.Re Rp.Set) (Rp.clsEnd true) = .error (6, a) by simp only [Rp.on]; unfold Rp.clsEnd; rw [if_pos hz])
              clear hz
              obtain ⟨z0, z1, z2, z3⟩ := Rp.at4z HS.out 1 rfl
              have HSD := Lib.hid HS.out.drew
              obtain ⟨z0d, z1d, z2d, z3d⟩ := Rp.at4z HSD.out 1 rfl
              go_wp2_with (fail)
              refine wp_region_held_drew (S := (fun w' => w'.cell? ⟨w9.heap.size, 0, none⟩ = some (.int .u64 0) ∧ w'.cell? ⟨w9.heap.size, 1, none⟩ = some (.int .u64 0) ∧ w'.cell? ⟨w9.heap.size, 2, none⟩ = some (.int .u64 0) ∧ w'.cell? ⟨w9.heap.size, 3, none⟩ = some (.int .u64 0))) (by kernel_rfl) ?_ (fun hHeld => ?_)
              · (try dsimp only); (first | with_reducible exact ⟨z0e, z1e, z2e, z3e⟩ | with_reducible exact ⟨z0f, z1f, z2f, z3f⟩ | exact ⟨z0d, z1d, z2d, z3d⟩)

              refine wpAnyH_take (i := 0) (v := ?_) rfl (by kernel_rfl) (by kernel_rfl) (by kernel_rfl) (fun _ _ _ h => h) (Or.inl ⟨by rfl, ?_⟩) (by assumption) ?_
              rotate_left; focus (intro w hSw; (try dsimp only at hSw); go_simp; try (with_reducible rfl); done)
              try simp only [List.getElem_toArray, List.getElem_cons_zero, List.getElem_cons_succ, Act.put, List.setIfInBounds_toArray, List.set_cons_zero, List.set_cons_succ]
              refine wpAnyH_take (i := 1) (v := ?_) rfl (by kernel_rfl) (by kernel_rfl) (by kernel_rfl) (fun _ _ _ h => h) (Or.inl ⟨by rfl, ?_⟩) (by assumption) ?_
              rotate_left; focus (intro w hSw; (try dsimp only at hSw); go_simp; try (with_reducible rfl); done)
              try simp only [List.getElem_toArray, List.getElem_cons_zero, List.getElem_cons_succ, Act.put, List.setIfInBounds_toArray, List.set_cons_zero, List.set_cons_succ]
              refine wpAnyH_ready (rs := [2]) (by kernel_rfl) (by simp) ?_
              refine AllReadyH.cons rfl (fun K hK => ?_) AllReadyH.nil
              go_simp
              (go_at_call 56; refine (rWrong_any s a op T w0 _ _ HSD.out).mono ?_; rintro ex w8 ⟨g, rfl, hst⟩; obtain ⟨z0e, z1e, z2e, z3e⟩ := Rp.at4z hst 2 rfl; obtain ⟨x0, x1, x2, x3⟩ := Rp.at4z hst 3 rfl; have v0 := (hst.nth 3 rfl).celFree 0; have v1 := (hst.nth 3 rfl).celFree 1; have v2 := (hst.nth 3 rfl).celFree 2; have v3 := (hst.nth 3 rfl).celFree 3; have HS9 := Lib.hid (((((hst.pick [3, 0, 1, 2] 4 (ρ := aCel w.heap.size 24 (Cs.clA Dm.zero) :: Rp.sp g 6 a :: Rp.rt T s a op :: aCel w9.heap.size 24 (Cs.clA Dm.zero) :: μ) rfl rfl).setCel 0 (.int .u64 0)).setCel 1 (.int .u64 0)).setCel 2 (.int .u64 0)).setCel 3 (.int .u64 0)); obtain ⟨z0f, z1f, z2f, z3f⟩ := Rp.at4z HS9.out 3 rfl; clear hst)
              refine hK.out _ _ ?_ (fun hHeld => ?_)
              · (try dsimp only); (first | with_reducible exact ⟨z0e, z1e, z2e, z3e⟩ | with_reducible exact ⟨z0f, z1f, z2f, z3f⟩ | exact ⟨z0d, z1d, z2d, z3d⟩)
              clear hK K
              try simp only [List.getElem_toArray, List.getElem_cons_zero, List.getElem_cons_succ, Act.put, List.setIfInBounds_toArray, List.set_cons_zero, List.set_cons_succ]
              refine wpAnyH_ready (rs := [3]) (by kernel_rfl) (by simp) ?_
              refine AllReadyH.cons rfl (fun K hK => ?_) AllReadyH.nil
              go_simp
              refine hK.out _ _ ?_ (fun hHeld => ?_)
              · (try dsimp only); (first | with_reducible exact ⟨z0e, z1e, z2e, z3e⟩ | with_reducible exact ⟨z0f, z1f, z2f, z3f⟩ | exact ⟨z0d, z1d, z2d, z3d⟩)
              clear hK K
              try simp only [List.getElem_toArray, List.getElem_cons_zero, List.getElem_cons_succ, Act.put, List.setIfInBounds_toArray, List.set_cons_zero, List.set_cons_succ]
              refine wpAnyH_take (i := 4) (v := ?_) rfl (by kernel_rfl) (by kernel_rfl) (by kernel_rfl) (fun _ _ _ h => h) (Or.inl ⟨by rfl, ?_⟩) (by assumption) ?_
              rotate_left; focus (intro w hSw; (try dsimp only at hSw); go_simp; try (with_reducible rfl); done)
              try simp only [List.getElem_toArray, List.getElem_cons_zero, List.getElem_cons_succ, Act.put, List.setIfInBounds_toArray, List.set_cons_zero, List.set_cons_succ]
              refine wpAnyH_done (by kernel_rfl) ?_ _
              go_wp2
              refine bodyPost_ret (results_row_tmp rfl _ _ w.heap.size 24 _ _ rfl (HS9.out.heapAt 0 rfl) Try.underlying24 rfl (by kernel_rfl)) rfl ?_
              rw [HRES2.out]
              exact ⟨g, a, rfl, HS9.out.pick [1, 2] 4 rfl rfl⟩
            · rw [decide_eq_false (by rw [← HQ.out]; exact hz)] at HEQ
              have HRES2 := Lib.hid (show Rp.on (Except.ok (p, a) : Rp.Re Rp.Set) (Rp.clsEnd true) = .ok ([q0, q1, q2, q3], a + 1) by simp only [Rp.on]; unfold Rp.clsEnd; rw [if_neg hz, HQ.out])
              clear hz
              have haw9 : IntKind.i64.wrap ((a : Int) + 1) = (a : Int) + 1 := IntWalk.i64_in _ (by omega)
              obtain ⟨z0, z1, z2, z3⟩ := Cs.at4 HS.out 1 rfl
              have hne : ¬ T = w9.heap.size := by have h1 := Rp.belowAt HSW.out 0 rfl; have h2 := HB9.out.size; omega
              have hne2 : ¬ T = w.heap.size := by have := HTB.out; omega
              have hne3 : ¬ w.heap.size = T := fun e => hne2 e.symm
              have hS3 := Rp.rtSetA HS.out ((a : Int) + 1)
              have HS9 := Lib.hid (((((hS3.pick [2, 0] 3 (ρ := aCel w.heap.size 24 (Cs.clA Dm.zero) :: Rp.rt T s ((a : Int) + 1) op :: μ) rfl rfl).setCel 0 (.int .u64 q0)).setCel 1 (.int .u64 q1)).setCel 2 (.int .u64 q2)).setCel 3 (.int .u64 q3))
              clear hS3 HS
              go_wp2
              refine bodyPost_ret (results_row_tmp rfl _ _ w.heap.size 24 _ _ rfl (HS9.out.heapAt 0 rfl) Try.underlying24 rfl (by kernel_rfl)) rfl ?_
              rw [HRES2.out]
              refine ⟨rfl, ?_⟩
              rw [Rp.nc]
              exact HS9.out.drop
        · exact absurd (.inr rfl) hend
      · have e93 : (Rp.pk s a != 93) = true := by rw [bne_iff_ne]; exact h93
        have hno : Rp.NotEnd s a n true := fun h => h93 h.1
        obtain ⟨PA, hPA⟩ : ∃ PA, Rp.pk s a = PA := ⟨_, rfl⟩
        have HPK := Lib.hid (rPeek_any s a op T w0 _ _ HS.out hs)
        rw [hPA] at HPK e93
        clear hPA h93
        go_wp2_with (fail)
        go_at_call 120
        refine HPK.out.mono ?_
        clear HPK
        rintro ex w3 ⟨rfl, hst⟩
        have HS := Lib.hid hst
        clear hst n0
        have HCH := Lib.hid (rrChar_any s a op ha hs T w0 _ _ HS.out)
        obtain ⟨CH, hch⟩ : ∃ r, Rp.chr s a = r := ⟨_, rfl⟩
        rw [hch] at HCH
        go_wp2_with (fail)
        go_at_call 212
        refine HCH.out.mono ?_
        clear HCH
        intro ex w4 hleft
        cases CH with
        | error ep =>
          obtain ⟨e, pp⟩ := ep
          obtain ⟨g, a', rfl, hst⟩ := hleft
          have hres := HRES0.out
          rw [Rp.cls_err hno (Rp.item_err hch)] at hres
          have HRES := Lib.hid hres.symm
          have HS := Lib.hid hst
          clear hst hres hno hch
          obtain ⟨x0, x1, x2, x3⟩ := Rp.at4z HS.out 4 rfl
          have v0 := (HS.out.nth 4 rfl).celFree 0
          have v1 := (HS.out.nth 4 rfl).celFree 1
          have v2 := (HS.out.nth 4 rfl).celFree 2
          have v3 := (HS.out.nth 4 rfl).celFree 3
          have HS9 := Lib.hid (((((HS.out.pick [4, 0, 1] 5 (ρ := aCel w.heap.size 24 (Cs.clA Dm.zero) :: Rp.sp g e pp :: Rp.rt T s a' op :: μ) rfl rfl).setCel 0 (.int .u64 0)).setCel 1 (.int .u64 0)).setCel 2 (.int .u64 0)).setCel 3 (.int .u64 0))
          clear HS
          go_wp2
          refine bodyPost_ret (results_row_tmp rfl _ _ w.heap.size 24 _ _ rfl (HS9.out.heapAt 0 rfl) Try.underlying24 rfl (by kernel_rfl)) rfl ?_
          have hR := HRES.out
          subst hR
          exact ⟨g, a', rfl, HS9.out.drop⟩
        | ok xb =>
          obtain ⟨lo, b1⟩ := xb
          obtain ⟨rfl, hst⟩ := hleft
          obtain ⟨hab, hb1, hlo⟩ := Rp.chr_ok ha hch
          have HS := Lib.hid hst
          clear hst
          have HPK := Lib.hid (rPeek_any s b1 op T w0 _ _ HS.out hs)
          by_cases h45 : Rp.pk s b1 = 45
          · rw [h45] at HPK
            have hlt45 := Rp.pk_lt 45 (by decide) h45
            have hit := Rp.item_two hch h45
            have hbw : IntKind.i64.wrap ((b1 : Int) + 1) = (b1 : Int) + 1 := IntWalk.i64_in _ (by omega)
            clear h45 hch
            go_wp2_with (fail)
            go_at_call 120
            refine HPK.out.mono ?_
            clear HPK
            rintro ex w5 ⟨rfl, hst⟩
            obtain ⟨c0, c1, c2, f1, f2⟩ := Rp.rtAt hst
            have HS : Hid (St w0 _ (Rp.rt T s (b1 + 1 : Nat) op :: aCel (w1.heap.size + 1) 336 (Rp.inA p) :: aCel w1.heap.size 4 #[.bool true] :: aCel w.heap.size 24 (Cs.clA Dm.zero) :: μ)) := Lib.hid (by rw [Rp.nc]; exact Rp.rtSetA hst ((b1 : Int) + 1))
            clear hst
            have HCH := Lib.hid (rrChar_any s (b1 + 1) op hlt45 hs T w0 _ _ HS.out)
            obtain ⟨CH2, hch2⟩ : ∃ r, Rp.chr s (b1 + 1) = r := ⟨_, rfl⟩
            rw [hch2] at HCH hit
            go_wp2_with (fail)
            go_at_call 212
            refine HCH.out.mono ?_
            clear HCH c0 c1 c2 f1 f2
            intro ex w6 hleft
            cases CH2 with
            | error ep =>
              obtain ⟨e, pp⟩ := ep
              obtain ⟨g, a', rfl, hst⟩ := hleft
              have hres := HRES0.out
              rw [Rp.cls_err hno (hit.trans rfl)] at hres
              have HRES := Lib.hid hres.symm
              have HS := Lib.hid hst
              clear hst hres hno hit hch2
              obtain ⟨x0, x1, x2, x3⟩ := Rp.at4z HS.out 4 rfl
              have v0 := (HS.out.nth 4 rfl).celFree 0
              have v1 := (HS.out.nth 4 rfl).celFree 1
              have v2 := (HS.out.nth 4 rfl).celFree 2
              have v3 := (HS.out.nth 4 rfl).celFree 3
              have HS9 := Lib.hid (((((HS.out.pick [4, 0, 1] 5 (ρ := aCel w.heap.size 24 (Cs.clA Dm.zero) :: Rp.sp g e pp :: Rp.rt T s a' op :: μ) rfl rfl).setCel 0 (.int .u64 0)).setCel 1 (.int .u64 0)).setCel 2 (.int .u64 0)).setCel 3 (.int .u64 0))
              clear HS
              go_wp2
              refine bodyPost_ret (results_row_tmp rfl _ _ w.heap.size 24 _ _ rfl (HS9.out.heapAt 0 rfl) Try.underlying24 rfl (by kernel_rfl)) rfl ?_
              have hR := HRES.out
              subst hR
              exact ⟨g, a', rfl, HS9.out.drop⟩
            | ok xb =>
              obtain ⟨hi, b2⟩ := xb
              obtain ⟨rfl, hst⟩ := hleft
              obtain ⟨hbb, hb2, hhi⟩ := Rp.chr_ok hlt45 hch2
              have HS := Lib.hid hst
              clear hst
              by_cases hlt : hi < lo
              · have hltI : (hi : Int) < (lo : Int) := by omega
                have hltJ : decide ((hi : Int) < (lo : Int)) = true := decide_eq_true hltI
                have hres := HRES0.out
                rw [Rp.cls_err hno (hit.trans (if_pos hlt))] at hres
                have HRES := Lib.hid hres.symm
                obtain ⟨g, hg⟩ : ∃ g, g = w6.heap.size := ⟨_, rfl⟩
                have hst := HS.out.alloc #[.int .i64 6, .int .i64 ((b1 : Int) + 1)] 136
                rw [← Rp.nc] at hst
                have HS := Lib.hid hst
                subst hg
                clear hst hres hno hit hch2 hlt
                rw [Rp.nc] at HS
                obtain ⟨x0, x1, x2, x3⟩ := Rp.at4z HS.out 4 rfl
                have v0 := (HS.out.nth 4 rfl).celFree 0
                have v1 := (HS.out.nth 4 rfl).celFree 1
                have v2 := (HS.out.nth 4 rfl).celFree 2
                have v3 := (HS.out.nth 4 rfl).celFree 3
                have HS9 := Lib.hid (((((HS.out.pick [4, 0, 1] 5 (ρ := aCel w.heap.size 24 (Cs.clA Dm.zero) :: Rp.sp w6.heap.size 6 ((b1 : Int) + 1) :: Rp.rt T s b2 op :: μ) rfl rfl).setCel 0 (.int .u64 0)).setCel 1 (.int .u64 0)).setCel 2 (.int .u64 0)).setCel 3 (.int .u64 0))
                clear HS
                go_wp2
                refine bodyPost_ret (results_row_tmp rfl _ _ w.heap.size 24 _ _ rfl (HS9.out.heapAt 0 rfl) Try.underlying24 rfl (by kernel_rfl)) rfl ?_
                have hR := HRES.out
                subst hR
                exact ⟨_, b2, rfl, HS9.out.drop⟩
              · have hltI : ¬ (hi : Int) < (lo : Int) := by omega
                have hltJ : decide ((hi : Int) < (lo : Int)) = false := decide_eq_false hltI
                have hres := HRES0.out
                rw [Rp.cls_step hno (hit.trans (if_neg hlt))] at hres
                have HRES := Lib.hid hres
                clear hres hno hit hch2 hlt HRES0
                go_wp2_with (fail)
                go_loopg [11] (hi + 1 - lo) (fun gj v11 wr => ∃ b : Nat, v11 = .int .i64 b ∧ lo ≤ b ∧ b ≤ hi + 1 ∧ gj = hi + 1 - b ∧ St w0 wr (Rp.rt T s b2 op :: aCel (w1.heap.size + 1) 336 (Rp.inA fun x => p x || decide (lo ≤ x ∧ x < b)) :: aCel w1.heap.size 4 #[.bool true] :: aCel w.heap.size 24 (Cs.clA Dm.zero) :: μ))
                case atStart =>
                  refine ⟨lo, rfl, Nat.le_refl _, by omega, rfl, ?_⟩
                  rw [show (fun x => p x || decide (lo ≤ x ∧ x < lo)) = p from funext fun x => by rw [decide_eq_false (by omega), Bool.or_false]]
                  exact HS.out
                case round =>
                  clear HS
                  rename World => wo
                  obtain ⟨b, rfl, hb1, hb2', hgj, hst⟩ := hrel
                  have HGJ := Lib.hid hgj
                  clear hgj
                  have hbw : IntKind.i64.wrap ((b : Int) + 1) = (b : Int) + 1 := IntWalk.i64_in _ (by omega)
                  by_cases hbh : b ≤ hi
                  · have hbI : (b : Int) ≤ (hi : Int) := by omega
                    have hb256 : b < 256 := by omega
                    have hbI2 : (b : Int) < 256 := by omega
                    have hb0 : (0 : Int) ≤ (b : Int) := by omega
                    have d0 := (hst.nth 1 rfl).celAt (Rp.inA_get hb256)
                    have e0 := (hst.nth 1 rfl).celFree b
                    have hst2 := hst.get2.setCel b (.int .i64 1)
                    rw [Rp.inA_set (q := fun x => p x || decide (lo ≤ x ∧ x < b + 1)) hb256 (fun x _ => by rw [Bool.or_assoc, ← Bool.decide_or]; congr 1; rw [decide_eq_decide]; omega)] at hst2
                    have HS2 := Lib.hid hst2.get2
                    clear hst hst2
                    generalize Rp.one _ b = yb at *
                    go_wp2
                    go_roundg (hi + 1 - (b + 1))
                    case measure => have := HGJ.out; omega
                    case rel => exact ⟨b + 1, by go_num, by omega, by omega, rfl, HS2.out⟩
                  · have hbI : ¬ (b : Int) ≤ (hi : Int) := by omega
                    obtain rfl : b = hi + 1 := by omega
                    rw [show (fun x => p x || decide (lo ≤ x ∧ x < hi + 1)) = Rp.joinTo p lo hi from funext fun x => by unfold Rp.joinTo; congr 1; rw [decide_eq_decide]; omega] at hst
                    have HS2 := Lib.hid hst
                    clear hst
                    go_wp2
                    go_roundg (s.size + 1 - b2)
                    case measure => have := HGK.out; omega
                    case rel => exact ⟨n + 1, Rp.joinTo p lo hi, b2, f, by go_num, by omega, by omega, rfl, HRES, by omega, HS2.out⟩
          · obtain ⟨PB, hPB⟩ : ∃ PB, Rp.pk s b1 = PB := ⟨_, rfl⟩
            have e45 : (PB == 45) = false := by rw [beq_eq_false_iff_ne, ← hPB]; exact h45
            rw [hPB] at HPK
            have hres := HRES0.out
            rw [Rp.cls_step hno (Rp.item_one hch h45)] at hres
            have HRES := Lib.hid hres
            clear hres hno hch h45 HRES0 hPB
            go_wp2_with (fail)
            go_at_call 120
            refine HPK.out.mono ?_
            clear HPK
            rintro ex w5 ⟨rfl, hst⟩
            have HS := Lib.hid hst
            clear hst
            go_wp2_with (fail)
            go_loopg [11] (lo + 1 - lo) (fun gj v11 wr => ∃ b : Nat, v11 = .int .i64 b ∧ lo ≤ b ∧ b ≤ lo + 1 ∧ gj = lo + 1 - b ∧ St w0 wr (Rp.rt T s b1 op :: aCel (w1.heap.size + 1) 336 (Rp.inA fun x => p x || decide (lo ≤ x ∧ x < b)) :: aCel w1.heap.size 4 #[.bool true] :: aCel w.heap.size 24 (Cs.clA Dm.zero) :: μ))
            case atStart =>
              refine ⟨lo, rfl, Nat.le_refl _, by omega, rfl, ?_⟩
              rw [show (fun x => p x || decide (lo ≤ x ∧ x < lo)) = p from funext fun x => by rw [decide_eq_false (by omega), Bool.or_false]]
              exact HS.out
            case round =>
              clear HS
              rename World => wo
              obtain ⟨b, rfl, hb1, hb2', hgj, hst⟩ := hrel
              have HGJ := Lib.hid hgj
              clear hgj
              have hbw : IntKind.i64.wrap ((b : Int) + 1) = (b : Int) + 1 := IntWalk.i64_in _ (by omega)
              by_cases hbh : b ≤ lo
              · have hbI : (b : Int) ≤ (lo : Int) := by omega
                have hb256 : b < 256 := by omega
                have hbI2 : (b : Int) < 256 := by omega
                have hb0 : (0 : Int) ≤ (b : Int) := by omega
                have d0 := (hst.nth 1 rfl).celAt (Rp.inA_get hb256)
                have e0 := (hst.nth 1 rfl).celFree b
                have hst2 := hst.get2.setCel b (.int .i64 1)
                rw [Rp.inA_set (q := fun x => p x || decide (lo ≤ x ∧ x < b + 1)) hb256 (fun x _ => by rw [Bool.or_assoc, ← Bool.decide_or]; congr 1; rw [decide_eq_decide]; omega)] at hst2
                have HS2 := Lib.hid hst2.get2
                clear hst hst2
                generalize Rp.one _ b = yb at *
                go_wp2
                go_roundg (lo + 1 - (b + 1))
                case measure => have := HGJ.out; omega
                case rel => exact ⟨b + 1, by go_num, by omega, by omega, rfl, HS2.out⟩
              · have hbI : ¬ (b : Int) ≤ (lo : Int) := by omega
                obtain rfl : b = lo + 1 := by omega
                rw [show (fun x => p x || decide (lo ≤ x ∧ x < lo + 1)) = Rp.joinTo p lo lo from funext fun x => by unfold Rp.joinTo; congr 1; rw [decide_eq_decide]; omega] at hst
                have HS2 := Lib.hid hst
                clear hst
                go_wp2
                go_roundg (s.size + 1 - b1)
                case measure => have := HGK.out; omega
                case rel => exact ⟨n + 1, Rp.joinTo p lo lo, b1, f, by go_num, by omega, by omega, rfl, HRES, by omega, HS2.out⟩
  | false =>
    rw [if_neg (by decide)] at hw2
    subst hw2
    have HST3 := Lib.hid hst3
    have HREL0 := Lib.hid (HREL.out _ _ _ (by rw [Rp.inA_zero]; exact hst3.pick [0, 1, 2, 3] 4 rfl rfl))
    clear hst2 hst3 HST3
    go_wp2_with (fail)
    clear c0 c1 c2 f1 f2 n0
    go_loopg [6] (s.size + 1 - a1) (fun gk v6 wr => Rp.RcRel w0 T s op false μ (w1.heap.size + 1) w1.heap.size w.heap.size RES gk v6 wr)
    case atStart => exact HREL0.out
    case round =>
      clear HREL0 HREL
      obtain ⟨n, p, a, f, rfl, ha, hna, hgk, HRES0, hf, hst⟩ := hrel
      obtain ⟨f, rfl⟩ : ∃ f', f = f' + 1 := ⟨f - 1, by omega⟩
      have HGK := Lib.hid hgk
      clear hgk
      have HS := Lib.hid hst
      have n0 := (hst.nth 2 rfl).celAt (i := 0) (v := .bool false) rfl
      clear hst
      have hnI : IntKind.i64.wrap ((n : Int) + 1) = (n : Int) + 1 := IntWalk.i64_in _ (by omega)
      by_cases h93 : Rp.pk s a = 93
      · by_cases hend : 0 < n ∨ false = true
        · have hres := HRES0.out
          rw [Rp.cls_end ⟨h93, hend⟩] at hres
          subst hres
          have hpk93 := h93
          have HPK := Lib.hid (rPeek_any s a op T w0 _ _ HS.out hs)
          rw [h93] at HPK
          have hn0 : 0 < n := by rcases hend with h | h; exact h; cases h
          have hn0I : ((n : Int) == 0) = false := by rw [beq_eq_false_iff_ne]; omega
          go_wp2_with (fail)
          go_at_call 120
          refine HPK.out.mono ?_
          clear HPK
          rintro ex w3 ⟨rfl, hst⟩
          have HS := Lib.hid hst
          have n0 := (hst.nth 2 rfl).celAt (i := 0) (v := .bool false) rfl
          clear hst h93
          have HW := Lib.hid (fun W h => rWhere_any 225 #[.pointer (some ⟨w1.heap.size + 1, 0, none⟩), .pointer (some ⟨w1.heap.size, 0, none⟩)] (fun b => p b != false) w0 W [aCel (w1.heap.size + 1) 336 (Rp.inA p), aCel w1.heap.size 4 #[.bool false]] (rrClo_any p false w0 _ _) (Fc.callC2 Try.func225 (by kernel_rfl) (by kernel_rfl)) h)
          obtain ⟨q0, q1, q2, q3, hq⟩ := Cs.okFour (Rp.ok4_cls false p)
          have hqv : Cs.clV (Cs.of fun b => p b != false) = .agg #[.int .u64 q0, .int .u64 q1, .int .u64 q2, .int .u64 q3] := by rw [show (Cs.of fun b => p b != false) = [q0, q1, q2, q3] from hq]; rfl
          rw [hqv] at HW
          have HEQ := fun W => Rx.eqz (a0 := q0) (a1 := q1) (a2 := q2) (a3 := q3) W
          have HQ := Lib.hid hq
          clear hq hqv
          go_wp2_with (fail)
          go_at_call 209
          refine (HW.out _ (HS.out.pick (ρ := [aCel (w1.heap.size + 1) 336 (Rp.inA p), aCel w1.heap.size 4 #[.bool false]]) [1, 2] (μ.length + 4) (by simp [picks]) (by simp))).mono ?_
          rintro ex w9 ⟨rfl, hb9⟩
          have HSW := HS
          have HB9 := Lib.hid hb9
          have HS := Lib.hid (((HS.out.call hb9).alloc #[.int .u64 (q0 : Int), .int .u64 (q1 : Int), .int .u64 (q2 : Int), .int .u64 (q3 : Int)] 24).pick [1, 0, 4] 5 (ρ := Rp.rt T s a op :: aCel w9.heap.size 24 (Cs.clA [q0, q1, q2, q3]) :: aCel w.heap.size 24 (Cs.clA Dm.zero) :: μ) rfl rfl)
          clear hb9
          obtain ⟨x0, x1, x2, x3⟩ := Rp.at4z HS.out 2 rfl
          have v0 := (HS.out.nth 2 rfl).celFree 0
          have v1 := (HS.out.nth 2 rfl).celFree 1
          have v2 := (HS.out.nth 2 rfl).celFree 2
          have v3 := (HS.out.nth 2 rfl).celFree 3
          obtain ⟨c0, c1, c2, f1, f2⟩ := Rp.rtAt HS.out
          by_cases hz : Rp.clsW false p = Dm.zero
          · clear HEQ
            have HEQ := Rp.eqz0
            have hz2 : Rp.clsW false p = Dm.zero := hz
            rw [HQ.out] at hz2
            unfold Dm.zero at hz2
            simp only [List.cons.injEq, and_true] at hz2
            obtain ⟨rfl, rfl, rfl, rfl⟩ := hz2
            have HS0 : Hid (St w0 (w9.alloc (.cells #[.int .u64 0, .int .u64 0, .int .u64 0, .int .u64 0] 24)) (Rp.rt T s a op :: aCel w9.heap.size 24 (Cs.clA Dm.zero) :: aCel w.heap.size 24 (Cs.clA Dm.zero) :: μ)) := HS
            clear HS c0 c1 c2 f1 f2 x0 x1 x2 x3 v0 v1 v2 v3
            have HS := HS0
            clear HS0
            obtain ⟨c0, c1, c2, f1, f2⟩ := Rp.rtAt HS.out
            obtain ⟨x0, x1, x2, x3⟩ := Rp.at4z HS.out 2 rfl
            have HRES2 := Lib.hid (show Rp.on (Except.ok (p, a) : Rp.Re Rp.Set) (Rp.clsEnd false) = .error (6, a) by simp only [Rp.on]; unfold Rp.clsEnd; rw [if_pos hz])
            clear hz
            obtain ⟨z0, z1, z2, z3⟩ := Rp.at4z HS.out 1 rfl
            have HSD := Lib.hid HS.out.drew
            obtain ⟨z0d, z1d, z2d, z3d⟩ := Rp.at4z HSD.out 1 rfl
            go_wp2_with (fail)
            refine wp_region_held_drew (S := (fun w' => w'.cell? ⟨w9.heap.size, 0, none⟩ = some (.int .u64 0) ∧ w'.cell? ⟨w9.heap.size, 1, none⟩ = some (.int .u64 0) ∧ w'.cell? ⟨w9.heap.size, 2, none⟩ = some (.int .u64 0) ∧ w'.cell? ⟨w9.heap.size, 3, none⟩ = some (.int .u64 0))) (by kernel_rfl) ?_ (fun hHeld => ?_)
            · (try dsimp only); (first | with_reducible exact ⟨z0e, z1e, z2e, z3e⟩ | with_reducible exact ⟨z0f, z1f, z2f, z3f⟩ | exact ⟨z0d, z1d, z2d, z3d⟩)

            refine wpAnyH_take (i := 0) (v := ?_) rfl (by kernel_rfl) (by kernel_rfl) (by kernel_rfl) (fun _ _ _ h => h) (Or.inl ⟨by rfl, ?_⟩) (by assumption) ?_
            rotate_left; focus (intro w hSw; (try dsimp only at hSw); go_simp; try (with_reducible rfl); done)
            try simp only [List.getElem_toArray, List.getElem_cons_zero, List.getElem_cons_succ, Act.put, List.setIfInBounds_toArray, List.set_cons_zero, List.set_cons_succ]
            refine wpAnyH_take (i := 1) (v := ?_) rfl (by kernel_rfl) (by kernel_rfl) (by kernel_rfl) (fun _ _ _ h => h) (Or.inl ⟨by rfl, ?_⟩) (by assumption) ?_
            rotate_left; focus (intro w hSw; (try dsimp only at hSw); go_simp; try (with_reducible rfl); done)
            try simp only [List.getElem_toArray, List.getElem_cons_zero, List.getElem_cons_succ, Act.put, List.setIfInBounds_toArray, List.set_cons_zero, List.set_cons_succ]
            refine wpAnyH_ready (rs := [2]) (by kernel_rfl) (by simp) ?_
            refine AllReadyH.cons rfl (fun K hK => ?_) AllReadyH.nil
            go_simp
            (go_at_call 56; refine (rWrong_any s a op T w0 _ _ HSD.out).mono ?_; rintro ex w8 ⟨g, rfl, hst⟩; obtain ⟨z0e, z1e, z2e, z3e⟩ := Rp.at4z hst 2 rfl; obtain ⟨x0, x1, x2, x3⟩ := Rp.at4z hst 3 rfl; have v0 := (hst.nth 3 rfl).celFree 0; have v1 := (hst.nth 3 rfl).celFree 1; have v2 := (hst.nth 3 rfl).celFree 2; have v3 := (hst.nth 3 rfl).celFree 3; have HS9 := Lib.hid (((((hst.pick [3, 0, 1, 2] 4 (ρ := aCel w.heap.size 24 (Cs.clA Dm.zero) :: Rp.sp g 6 a :: Rp.rt T s a op :: aCel w9.heap.size 24 (Cs.clA Dm.zero) :: μ) rfl rfl).setCel 0 (.int .u64 0)).setCel 1 (.int .u64 0)).setCel 2 (.int .u64 0)).setCel 3 (.int .u64 0)); obtain ⟨z0f, z1f, z2f, z3f⟩ := Rp.at4z HS9.out 3 rfl; clear hst)
            refine hK.out _ _ ?_ (fun hHeld => ?_)
            · (try dsimp only); (first | with_reducible exact ⟨z0e, z1e, z2e, z3e⟩ | with_reducible exact ⟨z0f, z1f, z2f, z3f⟩ | exact ⟨z0d, z1d, z2d, z3d⟩)
            clear hK K
            try simp only [List.getElem_toArray, List.getElem_cons_zero, List.getElem_cons_succ, Act.put, List.setIfInBounds_toArray, List.set_cons_zero, List.set_cons_succ]
            refine wpAnyH_ready (rs := [3]) (by kernel_rfl) (by simp) ?_
            refine AllReadyH.cons rfl (fun K hK => ?_) AllReadyH.nil
            go_simp
            refine hK.out _ _ ?_ (fun hHeld => ?_)
            · (try dsimp only); (first | with_reducible exact ⟨z0e, z1e, z2e, z3e⟩ | with_reducible exact ⟨z0f, z1f, z2f, z3f⟩ | exact ⟨z0d, z1d, z2d, z3d⟩)
            clear hK K
            try simp only [List.getElem_toArray, List.getElem_cons_zero, List.getElem_cons_succ, Act.put, List.setIfInBounds_toArray, List.set_cons_zero, List.set_cons_succ]
            refine wpAnyH_take (i := 4) (v := ?_) rfl (by kernel_rfl) (by kernel_rfl) (by kernel_rfl) (fun _ _ _ h => h) (Or.inl ⟨by rfl, ?_⟩) (by assumption) ?_
            rotate_left; focus (intro w hSw; (try dsimp only at hSw); go_simp; try (with_reducible rfl); done)
            try simp only [List.getElem_toArray, List.getElem_cons_zero, List.getElem_cons_succ, Act.put, List.setIfInBounds_toArray, List.set_cons_zero, List.set_cons_succ]
            refine wpAnyH_done (by kernel_rfl) ?_ _
            go_wp2
            refine bodyPost_ret (results_row_tmp rfl _ _ w.heap.size 24 _ _ rfl (HS9.out.heapAt 0 rfl) Try.underlying24 rfl (by kernel_rfl)) rfl ?_
            rw [HRES2.out]
            exact ⟨g, a, rfl, HS9.out.pick [1, 2] 4 rfl rfl⟩
          · rw [decide_eq_false (by rw [← HQ.out]; exact hz)] at HEQ
            have HRES2 := Lib.hid (show Rp.on (Except.ok (p, a) : Rp.Re Rp.Set) (Rp.clsEnd false) = .ok ([q0, q1, q2, q3], a + 1) by simp only [Rp.on]; unfold Rp.clsEnd; rw [if_neg hz, HQ.out])
            clear hz
            have haw9 : IntKind.i64.wrap ((a : Int) + 1) = (a : Int) + 1 := IntWalk.i64_in _ (by omega)
            obtain ⟨z0, z1, z2, z3⟩ := Cs.at4 HS.out 1 rfl
            have hne : ¬ T = w9.heap.size := by have h1 := Rp.belowAt HSW.out 0 rfl; have h2 := HB9.out.size; omega
            have hne2 : ¬ T = w.heap.size := by have := HTB.out; omega
            have hne3 : ¬ w.heap.size = T := fun e => hne2 e.symm
            have hS3 := Rp.rtSetA HS.out ((a : Int) + 1)
            have HS9 := Lib.hid (((((hS3.pick [2, 0] 3 (ρ := aCel w.heap.size 24 (Cs.clA Dm.zero) :: Rp.rt T s ((a : Int) + 1) op :: μ) rfl rfl).setCel 0 (.int .u64 q0)).setCel 1 (.int .u64 q1)).setCel 2 (.int .u64 q2)).setCel 3 (.int .u64 q3))
            clear hS3 HS
            go_wp2
            refine bodyPost_ret (results_row_tmp rfl _ _ w.heap.size 24 _ _ rfl (HS9.out.heapAt 0 rfl) Try.underlying24 rfl (by kernel_rfl)) rfl ?_
            rw [HRES2.out]
            refine ⟨rfl, ?_⟩
            rw [Rp.nc]
            exact HS9.out.drop
        · have hn0 : n = 0 := by by_cases h : n = 0; exact h; exact absurd (.inl (by omega)) hend
          have hno : Rp.NotEnd s a n false := fun h => hend h.2
          subst hn0
          have HPK := Lib.hid (rPeek_any s a op T w0 _ _ HS.out hs)
          rw [h93] at HPK
          have hch : Rp.chr s a = .error (6, a) := by rw [Rp.chr_pk, h93]; rfl
          clear h93 hend
          go_wp2_with (fail)
          go_at_call 120
          refine HPK.out.mono ?_
          clear HPK
          rintro ex w3 ⟨rfl, hst⟩
          have HS := Lib.hid hst
          have n0 := (hst.nth 2 rfl).celAt (i := 0) (v := .bool false) rfl
          clear hst
          have HCH := Lib.hid (rrChar_any s a op ha hs T w0 _ _ HS.out)
          rw [hch] at HCH
          go_wp2_with (fail)
          go_at_call 212
          refine HCH.out.mono ?_
          clear HCH
          rintro ex w4 ⟨g, a', rfl, hst⟩
          have hres := HRES0.out
          rw [Rp.cls_err hno (Rp.item_err hch)] at hres
          have HRES := Lib.hid hres.symm
          have HS := Lib.hid hst
          clear hst hres hno hch
          obtain ⟨x0, x1, x2, x3⟩ := Rp.at4z HS.out 4 rfl
          have v0 := (HS.out.nth 4 rfl).celFree 0
          have v1 := (HS.out.nth 4 rfl).celFree 1
          have v2 := (HS.out.nth 4 rfl).celFree 2
          have v3 := (HS.out.nth 4 rfl).celFree 3
          have HS9 := Lib.hid (((((HS.out.pick [4, 0, 1] 5 (ρ := aCel w.heap.size 24 (Cs.clA Dm.zero) :: Rp.sp g 6 a :: Rp.rt T s a' op :: μ) rfl rfl).setCel 0 (.int .u64 0)).setCel 1 (.int .u64 0)).setCel 2 (.int .u64 0)).setCel 3 (.int .u64 0))
          clear HS
          go_wp2
          refine bodyPost_ret (results_row_tmp rfl _ _ w.heap.size 24 _ _ rfl (HS9.out.heapAt 0 rfl) Try.underlying24 rfl (by kernel_rfl)) rfl ?_
          have hR := HRES.out
          subst hR
          exact ⟨g, a', rfl, HS9.out.drop⟩
      · have e93 : (Rp.pk s a != 93) = true := by rw [bne_iff_ne]; exact h93
        have hno : Rp.NotEnd s a n false := fun h => h93 h.1
        obtain ⟨PA, hPA⟩ : ∃ PA, Rp.pk s a = PA := ⟨_, rfl⟩
        have HPK := Lib.hid (rPeek_any s a op T w0 _ _ HS.out hs)
        rw [hPA] at HPK e93
        clear hPA h93
        go_wp2_with (fail)
        go_at_call 120
        refine HPK.out.mono ?_
        clear HPK
        rintro ex w3 ⟨rfl, hst⟩
        have HS := Lib.hid hst
        clear hst n0
        have HCH := Lib.hid (rrChar_any s a op ha hs T w0 _ _ HS.out)
        obtain ⟨CH, hch⟩ : ∃ r, Rp.chr s a = r := ⟨_, rfl⟩
        rw [hch] at HCH
        go_wp2_with (fail)
        go_at_call 212
        refine HCH.out.mono ?_
        clear HCH
        intro ex w4 hleft
        cases CH with
        | error ep =>
          obtain ⟨e, pp⟩ := ep
          obtain ⟨g, a', rfl, hst⟩ := hleft
          have hres := HRES0.out
          rw [Rp.cls_err hno (Rp.item_err hch)] at hres
          have HRES := Lib.hid hres.symm
          have HS := Lib.hid hst
          clear hst hres hno hch
          obtain ⟨x0, x1, x2, x3⟩ := Rp.at4z HS.out 4 rfl
          have v0 := (HS.out.nth 4 rfl).celFree 0
          have v1 := (HS.out.nth 4 rfl).celFree 1
          have v2 := (HS.out.nth 4 rfl).celFree 2
          have v3 := (HS.out.nth 4 rfl).celFree 3
          have HS9 := Lib.hid (((((HS.out.pick [4, 0, 1] 5 (ρ := aCel w.heap.size 24 (Cs.clA Dm.zero) :: Rp.sp g e pp :: Rp.rt T s a' op :: μ) rfl rfl).setCel 0 (.int .u64 0)).setCel 1 (.int .u64 0)).setCel 2 (.int .u64 0)).setCel 3 (.int .u64 0))
          clear HS
          go_wp2
          refine bodyPost_ret (results_row_tmp rfl _ _ w.heap.size 24 _ _ rfl (HS9.out.heapAt 0 rfl) Try.underlying24 rfl (by kernel_rfl)) rfl ?_
          have hR := HRES.out
          subst hR
          exact ⟨g, a', rfl, HS9.out.drop⟩
        | ok xb =>
          obtain ⟨lo, b1⟩ := xb
          obtain ⟨rfl, hst⟩ := hleft
          obtain ⟨hab, hb1, hlo⟩ := Rp.chr_ok ha hch
          have HS := Lib.hid hst
          clear hst
          have HPK := Lib.hid (rPeek_any s b1 op T w0 _ _ HS.out hs)
          by_cases h45 : Rp.pk s b1 = 45
          · rw [h45] at HPK
            have hlt45 := Rp.pk_lt 45 (by decide) h45
            have hit := Rp.item_two hch h45
            have hbw : IntKind.i64.wrap ((b1 : Int) + 1) = (b1 : Int) + 1 := IntWalk.i64_in _ (by omega)
            clear h45 hch
            go_wp2_with (fail)
            go_at_call 120
            refine HPK.out.mono ?_
            clear HPK
            rintro ex w5 ⟨rfl, hst⟩
            obtain ⟨c0, c1, c2, f1, f2⟩ := Rp.rtAt hst
            have HS : Hid (St w0 _ (Rp.rt T s (b1 + 1 : Nat) op :: aCel (w1.heap.size + 1) 336 (Rp.inA p) :: aCel w1.heap.size 4 #[.bool false] :: aCel w.heap.size 24 (Cs.clA Dm.zero) :: μ)) := Lib.hid (by rw [Rp.nc]; exact Rp.rtSetA hst ((b1 : Int) + 1))
            clear hst
            have HCH := Lib.hid (rrChar_any s (b1 + 1) op hlt45 hs T w0 _ _ HS.out)
            obtain ⟨CH2, hch2⟩ : ∃ r, Rp.chr s (b1 + 1) = r := ⟨_, rfl⟩
            rw [hch2] at HCH hit
            go_wp2_with (fail)
            go_at_call 212
            refine HCH.out.mono ?_
            clear HCH c0 c1 c2 f1 f2
            intro ex w6 hleft
            cases CH2 with
            | error ep =>
              obtain ⟨e, pp⟩ := ep
              obtain ⟨g, a', rfl, hst⟩ := hleft
              have hres := HRES0.out
              rw [Rp.cls_err hno (hit.trans rfl)] at hres
              have HRES := Lib.hid hres.symm
              have HS := Lib.hid hst
              clear hst hres hno hit hch2
              obtain ⟨x0, x1, x2, x3⟩ := Rp.at4z HS.out 4 rfl
              have v0 := (HS.out.nth 4 rfl).celFree 0
              have v1 := (HS.out.nth 4 rfl).celFree 1
              have v2 := (HS.out.nth 4 rfl).celFree 2
              have v3 := (HS.out.nth 4 rfl).celFree 3
              have HS9 := Lib.hid (((((HS.out.pick [4, 0, 1] 5 (ρ := aCel w.heap.size 24 (Cs.clA Dm.zero) :: Rp.sp g e pp :: Rp.rt T s a' op :: μ) rfl rfl).setCel 0 (.int .u64 0)).setCel 1 (.int .u64 0)).setCel 2 (.int .u64 0)).setCel 3 (.int .u64 0))
              clear HS
              go_wp2
              refine bodyPost_ret (results_row_tmp rfl _ _ w.heap.size 24 _ _ rfl (HS9.out.heapAt 0 rfl) Try.underlying24 rfl (by kernel_rfl)) rfl ?_
              have hR := HRES.out
              subst hR
              exact ⟨g, a', rfl, HS9.out.drop⟩
            | ok xb =>
              obtain ⟨hi, b2⟩ := xb
              obtain ⟨rfl, hst⟩ := hleft
              obtain ⟨hbb, hb2, hhi⟩ := Rp.chr_ok hlt45 hch2
              have HS := Lib.hid hst
              clear hst
              by_cases hlt : hi < lo
              · have hltI : (hi : Int) < (lo : Int) := by omega
                have hltJ : decide ((hi : Int) < (lo : Int)) = true := decide_eq_true hltI
                have hres := HRES0.out
                rw [Rp.cls_err hno (hit.trans (if_pos hlt))] at hres
                have HRES := Lib.hid hres.symm
                obtain ⟨g, hg⟩ : ∃ g, g = w6.heap.size := ⟨_, rfl⟩
                have hst := HS.out.alloc #[.int .i64 6, .int .i64 ((b1 : Int) + 1)] 136
                rw [← Rp.nc] at hst
                have HS := Lib.hid hst
                subst hg
                clear hst hres hno hit hch2 hlt
                rw [Rp.nc] at HS
                obtain ⟨x0, x1, x2, x3⟩ := Rp.at4z HS.out 4 rfl
                have v0 := (HS.out.nth 4 rfl).celFree 0
                have v1 := (HS.out.nth 4 rfl).celFree 1
                have v2 := (HS.out.nth 4 rfl).celFree 2
                have v3 := (HS.out.nth 4 rfl).celFree 3
                have HS9 := Lib.hid (((((HS.out.pick [4, 0, 1] 5 (ρ := aCel w.heap.size 24 (Cs.clA Dm.zero) :: Rp.sp w6.heap.size 6 ((b1 : Int) + 1) :: Rp.rt T s b2 op :: μ) rfl rfl).setCel 0 (.int .u64 0)).setCel 1 (.int .u64 0)).setCel 2 (.int .u64 0)).setCel 3 (.int .u64 0))
                clear HS
                go_wp2
                refine bodyPost_ret (results_row_tmp rfl _ _ w.heap.size 24 _ _ rfl (HS9.out.heapAt 0 rfl) Try.underlying24 rfl (by kernel_rfl)) rfl ?_
                have hR := HRES.out
                subst hR
                exact ⟨_, b2, rfl, HS9.out.drop⟩
              · have hltI : ¬ (hi : Int) < (lo : Int) := by omega
                have hltJ : decide ((hi : Int) < (lo : Int)) = false := decide_eq_false hltI
                have hres := HRES0.out
                rw [Rp.cls_step hno (hit.trans (if_neg hlt))] at hres
                have HRES := Lib.hid hres
                clear hres hno hit hch2 hlt HRES0
                go_wp2_with (fail)
                go_loopg [11] (hi + 1 - lo) (fun gj v11 wr => ∃ b : Nat, v11 = .int .i64 b ∧ lo ≤ b ∧ b ≤ hi + 1 ∧ gj = hi + 1 - b ∧ St w0 wr (Rp.rt T s b2 op :: aCel (w1.heap.size + 1) 336 (Rp.inA fun x => p x || decide (lo ≤ x ∧ x < b)) :: aCel w1.heap.size 4 #[.bool false] :: aCel w.heap.size 24 (Cs.clA Dm.zero) :: μ))
                case atStart =>
                  refine ⟨lo, rfl, Nat.le_refl _, by omega, rfl, ?_⟩
                  rw [show (fun x => p x || decide (lo ≤ x ∧ x < lo)) = p from funext fun x => by rw [decide_eq_false (by omega), Bool.or_false]]
                  exact HS.out
                case round =>
                  clear HS
                  rename World => wo
                  obtain ⟨b, rfl, hb1, hb2', hgj, hst⟩ := hrel
                  have HGJ := Lib.hid hgj
                  clear hgj
                  have hbw : IntKind.i64.wrap ((b : Int) + 1) = (b : Int) + 1 := IntWalk.i64_in _ (by omega)
                  by_cases hbh : b ≤ hi
                  · have hbI : (b : Int) ≤ (hi : Int) := by omega
                    have hb256 : b < 256 := by omega
                    have hbI2 : (b : Int) < 256 := by omega
                    have hb0 : (0 : Int) ≤ (b : Int) := by omega
                    have d0 := (hst.nth 1 rfl).celAt (Rp.inA_get hb256)
                    have e0 := (hst.nth 1 rfl).celFree b
                    have hst2 := hst.get2.setCel b (.int .i64 1)
                    rw [Rp.inA_set (q := fun x => p x || decide (lo ≤ x ∧ x < b + 1)) hb256 (fun x _ => by rw [Bool.or_assoc, ← Bool.decide_or]; congr 1; rw [decide_eq_decide]; omega)] at hst2
                    have HS2 := Lib.hid hst2.get2
                    clear hst hst2
                    generalize Rp.one _ b = yb at *
                    go_wp2
                    go_roundg (hi + 1 - (b + 1))
                    case measure => have := HGJ.out; omega
                    case rel => exact ⟨b + 1, by go_num, by omega, by omega, rfl, HS2.out⟩
                  · have hbI : ¬ (b : Int) ≤ (hi : Int) := by omega
                    obtain rfl : b = hi + 1 := by omega
                    rw [show (fun x => p x || decide (lo ≤ x ∧ x < hi + 1)) = Rp.joinTo p lo hi from funext fun x => by unfold Rp.joinTo; congr 1; rw [decide_eq_decide]; omega] at hst
                    have HS2 := Lib.hid hst
                    clear hst
                    go_wp2
                    go_roundg (s.size + 1 - b2)
                    case measure => have := HGK.out; omega
                    case rel => exact ⟨n + 1, Rp.joinTo p lo hi, b2, f, by go_num, by omega, by omega, rfl, HRES, by omega, HS2.out⟩
          · obtain ⟨PB, hPB⟩ : ∃ PB, Rp.pk s b1 = PB := ⟨_, rfl⟩
            have e45 : (PB == 45) = false := by rw [beq_eq_false_iff_ne, ← hPB]; exact h45
            rw [hPB] at HPK
            have hres := HRES0.out
            rw [Rp.cls_step hno (Rp.item_one hch h45)] at hres
            have HRES := Lib.hid hres
            clear hres hno hch h45 HRES0 hPB
            go_wp2_with (fail)
            go_at_call 120
            refine HPK.out.mono ?_
            clear HPK
            rintro ex w5 ⟨rfl, hst⟩
            have HS := Lib.hid hst
            clear hst
            go_wp2_with (fail)
            go_loopg [11] (lo + 1 - lo) (fun gj v11 wr => ∃ b : Nat, v11 = .int .i64 b ∧ lo ≤ b ∧ b ≤ lo + 1 ∧ gj = lo + 1 - b ∧ St w0 wr (Rp.rt T s b1 op :: aCel (w1.heap.size + 1) 336 (Rp.inA fun x => p x || decide (lo ≤ x ∧ x < b)) :: aCel w1.heap.size 4 #[.bool false] :: aCel w.heap.size 24 (Cs.clA Dm.zero) :: μ))
            case atStart =>
              refine ⟨lo, rfl, Nat.le_refl _, by omega, rfl, ?_⟩
              rw [show (fun x => p x || decide (lo ≤ x ∧ x < lo)) = p from funext fun x => by rw [decide_eq_false (by omega), Bool.or_false]]
              exact HS.out
            case round =>
              clear HS
              rename World => wo
              obtain ⟨b, rfl, hb1, hb2', hgj, hst⟩ := hrel
              have HGJ := Lib.hid hgj
              clear hgj
              have hbw : IntKind.i64.wrap ((b : Int) + 1) = (b : Int) + 1 := IntWalk.i64_in _ (by omega)
              by_cases hbh : b ≤ lo
              · have hbI : (b : Int) ≤ (lo : Int) := by omega
                have hb256 : b < 256 := by omega
                have hbI2 : (b : Int) < 256 := by omega
                have hb0 : (0 : Int) ≤ (b : Int) := by omega
                have d0 := (hst.nth 1 rfl).celAt (Rp.inA_get hb256)
                have e0 := (hst.nth 1 rfl).celFree b
                have hst2 := hst.get2.setCel b (.int .i64 1)
                rw [Rp.inA_set (q := fun x => p x || decide (lo ≤ x ∧ x < b + 1)) hb256 (fun x _ => by rw [Bool.or_assoc, ← Bool.decide_or]; congr 1; rw [decide_eq_decide]; omega)] at hst2
                have HS2 := Lib.hid hst2.get2
                clear hst hst2
                generalize Rp.one _ b = yb at *
                go_wp2
                go_roundg (lo + 1 - (b + 1))
                case measure => have := HGJ.out; omega
                case rel => exact ⟨b + 1, by go_num, by omega, by omega, rfl, HS2.out⟩
              · have hbI : ¬ (b : Int) ≤ (lo : Int) := by omega
                obtain rfl : b = lo + 1 := by omega
                rw [show (fun x => p x || decide (lo ≤ x ∧ x < lo + 1)) = Rp.joinTo p lo lo from funext fun x => by unfold Rp.joinTo; congr 1; rw [decide_eq_decide]; omega] at hst
                have HS2 := Lib.hid hst
                clear hst
                go_wp2
                go_roundg (s.size + 1 - b1)
                case measure => have := HGK.out; omega
                case rel => exact ⟨n + 1, Rp.joinTo p lo lo, b1, f, by go_num, by omega, by omega, rfl, HRES, by omega, HS2.out⟩
end Go.Proofs.Ytfelikfppjlcmaa

/-
  The reference's reader of regular expressions: atom.
-/
namespace Go.Proofs.Ytfelikfppjlcmaa
set_option linter.unusedVariables false
set_option linter.unusedSimpArgs false
open Go.ChangeShapes Go.WideShapes Go.ChangeAt Go.RowKit

namespace Rp
/-- What a method of the reference that reads a tree leaves. -/
def LeftS (T : Nat) (s : ByteArray) (op : Int) (w0 : World) (μ : List Asrt) (r : Re Rx) (ex : Ending) (w' : World) : Prop :=
  ∃ (t : Rx) (ao : Option Addr) (c : Nat) (fp : List Nat), Fine t ∧
    ((∃ b, r = .ok (t, b) ∧ b ≤ s.size ∧ ex = .returned (.tuple #[.agg (rxA t ao c), .pointer none]) ∧ St w0 w' (kidsA fp ao c t :: rt T s b op :: μ)) ∨
     (∃ e p g a', r = .error (e, p) ∧ (e = 6 ∨ e = 7) ∧ ex = .returned (.tuple #[.agg (rxA t ao c), .pointer (some ⟨g, 0, none⟩)]) ∧ St w0 w' (kidsA fp ao c t :: sp g e p :: rt T s a' op :: μ)))
def TR (fn : Nat) (s : ByteArray) (r : Nat → Re Rx) (op : Int) : Prop := ∀ (a : Nat) (T : Nat) (w0 w : World) (μ : List Asrt), a ≤ s.size → St w0 w (rt T s a op :: μ) → Calls Try.prog fn #[.pointer (some ⟨T, 0, none⟩)] w (LeftS T s op w0 μ (r a))
theorem leftS_ok {T : Nat} {s : ByteArray} {op : Int} {w0 w' : World} {μ : List Asrt} {r : Re Rx} {ex : Ending} {t : Rx} {b : Nat} {ao : Option Addr} {c : Nat} {fp : List Nat} (hr : r = .ok (t, b)) (hb : b ≤ s.size) (hf : Fine t) (hex : ex = .returned (.tuple #[.agg (rxA t ao c), .pointer none])) (h : St w0 w' (kidsA fp ao c t :: rt T s b op :: μ)) : LeftS T s op w0 μ r ex w' :=
  ⟨t, ao, c, fp, hf, .inl ⟨b, hr, hb, hex, h⟩⟩
theorem leftS_bad {T : Nat} {s : ByteArray} {op : Int} {w0 w' : World} {μ : List Asrt} {r : Re Rx} {ex : Ending} {t : Rx} {e : Int} {p g : Nat} {a' : Int} {ao : Option Addr} {c : Nat} {fp : List Nat} (hr : r = .error (e, p)) (he : e = 6 ∨ e = 7) (hf : Fine t) (hex : ex = .returned (.tuple #[.agg (rxA t ao c), .pointer (some ⟨g, 0, none⟩)])) (h : St w0 w' (kidsA fp ao c t :: sp g e p :: rt T s a' op :: μ)) : LeftS T s op w0 μ r ex w' :=
  ⟨t, ao, c, fp, hf, .inr ⟨e, p, g, a', hr, he, hex, h⟩⟩
end Rp

set_option maxRecDepth 100000 in
theorem rrDot_any (w0 : World) (μ : List Asrt) : Cs.Tells 210 #[] (fun b => decide (b ≠ 10)) w0 μ := by
  intro x hx W ν h
  have hd : decide (x ≠ 10) = ((x : Int) != 10) := by rw [Bool.eq_iff_iff, decide_eq_true_iff, bne_iff_ne]; omega
  show Calls Try.prog 210 #[.int .i64 x] W fun e w' => e = .returned (.bool (decide (x ≠ 10))) ∧ Below W.heap.size W w'
  rw [hd]
  have HB := Lib.hid (Below.refl W.heap.size W)
  clear hd h
  generalize (x : Int) = y at *
  go_enter Try.func210, Try.ntmps210
  go_wp2
  go_ret
  exact ⟨rfl, HB.out⟩

set_option maxRecDepth 100000 in
theorem rrOne_any (b : Nat) (w0 : World) (g : Nat) : Cs.Tells 213 #[.pointer (some ⟨g, 0, none⟩)] (fun x => decide (x = b)) w0 [aCel g 3 #[.int .i64 b]] := by
  intro x hx W ν h
  have h1 := (h.pick (ρ := [aCel g 3 #[.int .i64 b]]) [ν.length] (ν.length + 1) (by simp [picks]) (by simp))
  have c0 := h1.celAt (i := 0) (v := .int .i64 b) rfl
  have hd : decide (x = b) = ((x : Int) == (b : Int)) := by rw [Bool.eq_iff_iff, decide_eq_true_iff, beq_iff_eq]; omega
  show Calls Try.prog 213 #[.int .i64 x, .pointer (some ⟨g, 0, none⟩)] W fun e w' => e = .returned (.bool (decide (x = b))) ∧ Below W.heap.size W w'
  rw [hd]
  have HB := Lib.hid (Below.refl W.heap.size W)
  clear hd h h1
  generalize (x : Int) = y at *
  generalize (b : Int) = z at *
  go_enter Try.func213, Try.ntmps213
  go_wp2
  go_ret
  exact ⟨rfl, HB.out⟩


set_option maxRecDepth 100000 in
set_option maxHeartbeats 16000000 in
theorem rrAtom_any (s : ByteArray) (hs : s.size ≤ 300) (op : Int) (br : Nat → Rp.Re Rx) (h0 : 0 ≤ op) (h1 : op ≤ 30)
    (hbr : (op = 30 ∧ br = Rp.deep) ∨ (op < 30 ∧ ∃ inner, br = Rp.brk s inner ∧ Rp.TR 55 s inner (op + 1))) : Rp.TR 181 s (Rp.atom s br) op := by
  intro a T w0 w μ ha h
  have hst := (h.alloc #[.int .i64 0, .int .u64 0, .int .u64 0, .int .u64 0, .int .u64 0, .slice none 0 0] 27).get2
  have HPK := Lib.hid (rPeek_any s a op T w0 _ _ hst hs)
  have haw : IntKind.i64.wrap ((a : Int) + 1) = (a : Int) + 1 := IntWalk.i64_in _ (by omega)
  have haw2 : IntKind.i64.wrap ((a : Int) + 1 + 1) = (a : Int) + 1 + 1 := IntWalk.i64_in _ (by omega)
  have HBR := Lib.hid hbr
  clear h hst hbr
  by_cases k40 : Rp.pk s a = 40
  · have hlt := Rp.pk_lt 40 (by decide) k40
    rw [k40] at HPK
    rw [Rp.atom_br k40]
    clear k40
    rcases HBR.out with ⟨rfl, rfl⟩ | ⟨hop, inner, rfl, hin⟩
    · clear HBR
      go_enter Try.func181, Try.ntmps181
      go_wp2_with (fail)
      go_at_call 120
      refine HPK.out.mono ?_
      clear HPK
      rintro ex w1 ⟨rfl, hst⟩
      have HS := Lib.hid hst
      clear hst
      obtain ⟨c0, c1, c2, f1, f2⟩ := Rp.rtAt HS.out
      have hA1 := HS.out.alloc #[.int .i64 7, .int .i64 (a : Int)] 136
      have HA2 := Lib.hid (Rp.set6 (hA1.pick [2, 0, 1] 3 (ρ := aCel w.heap.size 27 #[.int .i64 0, .int .u64 0, .int .u64 0, .int .u64 0, .int .u64 0, .slice none 0 0] :: Rp.sp w1.heap.size 7 a :: Rp.rt T s a 30 :: μ) rfl rfl) (.int .i64 0) (.int .u64 0) (.int .u64 0) (.int .u64 0) (.int .u64 0) (.slice none 0 0)).drew
      have hB1 := Rp.set6 (HS.out.get2) (.int .i64 0) (.int .u64 0) (.int .u64 0) (.int .u64 0) (.int .u64 0) (.slice none 0 0)
      have hB2 := (hB1.alloc #[.int .i64 7, .int .i64 (a : Int)] 136).drew
      simp only [World.size_setCell] at hB2
      have HB2 := Lib.hid (hB2.pick [1, 0, 2] 3 (ρ := aCel w.heap.size 27 #[.int .i64 0, .int .u64 0, .int .u64 0, .int .u64 0, .int .u64 0, .slice none 0 0] :: Rp.sp w1.heap.size 7 a :: Rp.rt T s a 30 :: μ) rfl rfl)
      obtain ⟨-, d1, -, -, -⟩ := Rp.rtAt HS.out.drew
      obtain ⟨-, d1b, -, -, -⟩ := Rp.rtAt (hA1.get2.drew)
      obtain ⟨-, d1c, -, -, -⟩ := Rp.rtAt (hB1.get2.drew)
      obtain ⟨-, d1d, -, -, -⟩ := Rp.rtAt (HA2.out.nth 2 rfl)
      obtain ⟨-, d1e, -, -, -⟩ := Rp.rtAt (HB2.out.nth 2 rfl)
      obtain ⟨x0, x1, x2, x3, x4, x5⟩ := Rx.cel6 HS.out 1 rfl
      obtain ⟨v0, v1, v2, v3, v4, v5⟩ := Rp.free6 HS.out 1 rfl
      obtain ⟨y0, y1, y2, y3, y4, y5⟩ := Rx.cel6 hA1 2 rfl
      obtain ⟨u0, u1, u2, u3, u4, u5⟩ := Rp.free6 hA1 2 rfl
      clear hA1 hB1 hB2
      go_wp2_with (fail)
      refine wp_region_held_drew (S := (fun w' => w'.cell? ⟨T, 1, none⟩ = some (.int .i64 (a : Int)))) (by kernel_rfl) ?_ (fun hHeld => ?_)
      · (try dsimp only); (first | with_reducible exact d1 | with_reducible exact d1b | with_reducible exact d1c | with_reducible exact d1d | with_reducible exact d1e)

      refine wpAnyH_take (i := 0) (v := ?_) rfl (by kernel_rfl) (by kernel_rfl) (by kernel_rfl) (fun _ _ _ h => h) (Or.inl ⟨by rfl, ?_⟩) (by assumption) ?_
      rotate_left; focus (intro w hSw; (try dsimp only at hSw); go_simp; try (with_reducible rfl); done)
      try simp only [List.getElem_toArray, List.getElem_cons_zero, List.getElem_cons_succ, Act.put, List.setIfInBounds_toArray, List.set_cons_zero, List.set_cons_succ]
      refine wpAnyH_take (i := 1) (v := ?_) rfl (by kernel_rfl) (by kernel_rfl) (by kernel_rfl) (fun _ _ _ h => h) (Or.inl ⟨by rfl, ?_⟩) (by assumption) ?_
      rotate_left; focus (intro w hSw; (try dsimp only at hSw); go_simp; try (with_reducible rfl); done)
      try simp only [List.getElem_toArray, List.getElem_cons_zero, List.getElem_cons_succ, Act.put, List.setIfInBounds_toArray, List.set_cons_zero, List.set_cons_succ]
      refine wpAnyH_take (i := 2) (v := ?_) rfl (by kernel_rfl) (by kernel_rfl) (by kernel_rfl) (fun _ _ _ h => h) (Or.inl ⟨by rfl, ?_⟩) (by assumption) ?_
      rotate_left; focus (intro w hSw; (try dsimp only at hSw); go_simp; try (with_reducible rfl); done)
      try simp only [List.getElem_toArray, List.getElem_cons_zero, List.getElem_cons_succ, Act.put, List.setIfInBounds_toArray, List.set_cons_zero, List.set_cons_succ]
      refine wpAnyH_take (i := 3) (v := ?_) rfl (by kernel_rfl) (by kernel_rfl) (by kernel_rfl) (fun _ _ _ h => h) (Or.inl ⟨by rfl, ?_⟩) (by assumption) ?_
      rotate_left; focus (intro w hSw; (try dsimp only at hSw); go_simp; try (with_reducible rfl); done)
      try simp only [List.getElem_toArray, List.getElem_cons_zero, List.getElem_cons_succ, Act.put, List.setIfInBounds_toArray, List.set_cons_zero, List.set_cons_succ]
      refine wpAnyH_take (i := 4) (v := ?_) rfl (by kernel_rfl) (by kernel_rfl) (by kernel_rfl) (fun _ _ _ h => h) (Or.inl ⟨by rfl, ?_⟩) (by assumption) ?_
      rotate_left; focus (intro w hSw; (try dsimp only at hSw); go_simp; try (with_reducible rfl); done)
      try simp only [List.getElem_toArray, List.getElem_cons_zero, List.getElem_cons_succ, Act.put, List.setIfInBounds_toArray, List.set_cons_zero, List.set_cons_succ]
      refine wpAnyH_take (i := 5) (v := ?_) rfl (by kernel_rfl) (by kernel_rfl) (by kernel_rfl) (fun _ _ _ h => h) (Or.inl ⟨by rfl, ?_⟩) (by assumption) ?_
      rotate_left; focus (intro w hSw; (try dsimp only at hSw); go_simp; try (with_reducible rfl); done)
      try simp only [List.getElem_toArray, List.getElem_cons_zero, List.getElem_cons_succ, Act.put, List.setIfInBounds_toArray, List.set_cons_zero, List.set_cons_succ]
      refine wpAnyH_ready (rs := [6, 7]) (by kernel_rfl) (by simp) ?_
      refine AllReadyH.cons rfl (fun K hK => ?_) (AllReadyH.cons rfl (fun K hK => ?_) (AllReadyH.nil))
      · skip
        go_simp
        refine hK.out _ _ ?_ (fun hHeld => ?_)
        · (try dsimp only); (first | with_reducible exact d1 | with_reducible exact d1b | with_reducible exact d1c | with_reducible exact d1d | with_reducible exact d1e)
        clear hK K
        try simp only [List.getElem_toArray, List.getElem_cons_zero, List.getElem_cons_succ, Act.put, List.setIfInBounds_toArray, List.set_cons_zero, List.set_cons_succ]
        refine wpAnyH_ready (rs := [7]) (by kernel_rfl) (by simp) ?_
        refine AllReadyH.cons rfl (fun K hK => ?_) (AllReadyH.nil)
        go_simp
        refine hK.out _ _ ?_ (fun hHeld => ?_)
        · (try dsimp only); (first | with_reducible exact d1 | with_reducible exact d1b | with_reducible exact d1c | with_reducible exact d1d | with_reducible exact d1e)
        clear hK K
        try simp only [List.getElem_toArray, List.getElem_cons_zero, List.getElem_cons_succ, Act.put, List.setIfInBounds_toArray, List.set_cons_zero, List.set_cons_succ]
        refine wpAnyH_take (i := 8) (v := ?_) rfl (by kernel_rfl) (by kernel_rfl) (by kernel_rfl) (fun _ _ _ h => h) (Or.inl ⟨by rfl, ?_⟩) (by assumption) ?_
        rotate_left; focus (intro w hSw; (try dsimp only at hSw); go_simp; try (with_reducible rfl); done)
        try simp only [List.getElem_toArray, List.getElem_cons_zero, List.getElem_cons_succ, Act.put, List.setIfInBounds_toArray, List.set_cons_zero, List.set_cons_succ]
        refine wpAnyH_done (by kernel_rfl) ?_ _
        go_wp2
        refine bodyPost_ret (results_row_tmp rfl _ _ w.heap.size 27 _ _ rfl (HA2.out.heapAt 0 rfl) Try.underlying27 rfl (by kernel_rfl)) rfl ?_
        exact Rp.leftS_bad (t := .mk 0 (Rp.ints Dm.zero) []) (ao := none) (c := 0) (fp := []) rfl (.inr rfl) (Rp.fine_mk (by decide) (by decide) Rp.zero_ok) rfl (Rp.St.leaf HA2.out.drop)
      · skip
        go_simp
        refine hK.out _ _ ?_ (fun hHeld => ?_)
        · (try dsimp only); (first | with_reducible exact d1 | with_reducible exact d1b | with_reducible exact d1c | with_reducible exact d1d | with_reducible exact d1e)
        clear hK K
        try simp only [List.getElem_toArray, List.getElem_cons_zero, List.getElem_cons_succ, Act.put, List.setIfInBounds_toArray, List.set_cons_zero, List.set_cons_succ]
        refine wpAnyH_ready (rs := [6]) (by kernel_rfl) (by simp) ?_
        refine AllReadyH.cons rfl (fun K hK => ?_) (AllReadyH.nil)
        go_simp
        refine hK.out _ _ ?_ (fun hHeld => ?_)
        · (try dsimp only); (first | with_reducible exact d1 | with_reducible exact d1b | with_reducible exact d1c | with_reducible exact d1d | with_reducible exact d1e)
        clear hK K
        try simp only [List.getElem_toArray, List.getElem_cons_zero, List.getElem_cons_succ, Act.put, List.setIfInBounds_toArray, List.set_cons_zero, List.set_cons_succ]
        refine wpAnyH_take (i := 8) (v := ?_) rfl (by kernel_rfl) (by kernel_rfl) (by kernel_rfl) (fun _ _ _ h => h) (Or.inl ⟨by rfl, ?_⟩) (by assumption) ?_
        rotate_left; focus (intro w hSw; (try dsimp only at hSw); go_simp; try (with_reducible rfl); done)
        try simp only [List.getElem_toArray, List.getElem_cons_zero, List.getElem_cons_succ, Act.put, List.setIfInBounds_toArray, List.set_cons_zero, List.set_cons_succ]
        refine wpAnyH_done (by kernel_rfl) ?_ _
        go_wp2
        refine bodyPost_ret (results_row_tmp rfl _ _ w.heap.size 27 _ _ rfl (HB2.out.heapAt 0 rfl) Try.underlying27 rfl (by kernel_rfl)) rfl ?_
        exact Rp.leftS_bad (t := .mk 0 (Rp.ints Dm.zero) []) (ao := none) (c := 0) (fp := []) rfl (.inr rfl) (Rp.fine_mk (by decide) (by decide) Rp.zero_ok) rfl (Rp.St.leaf HB2.out.drop)
    · have HIN := Lib.hid hin
      have hne : (op == 30) = false := by rw [beq_eq_false_iff_ne]; omega
      have how : IntKind.i64.wrap (op + 1) = op + 1 := IntWalk.i64_in _ (by omega)
      have how2 : IntKind.i64.wrap (op + 1 - 1) = op := by rw [Int.add_sub_cancel]; exact IntWalk.i64_in _ (by omega)
      clear hin HBR
      go_enter Try.func181, Try.ntmps181
      go_wp2_with (fail)
      go_at_call 120
      refine HPK.out.mono ?_
      clear HPK
      rintro ex w1 ⟨rfl, hst⟩
      have HS := Lib.hid hst
      clear hst
      obtain ⟨c0, c1, c2, f1, f2⟩ := Rp.rtAt HS.out
      have HSA : Hid (St w0 _ (Rp.rt T s (a + 1 : Nat) op :: aCel w.heap.size 27 #[.int .i64 0, .int .u64 0, .int .u64 0, .int .u64 0, .int .u64 0, .slice none 0 0] :: μ)) := Lib.hid (by rw [Rp.nc]; exact Rp.rtSetA HS.out ((a : Int) + 1))
      have HP2 := Lib.hid (rPeek_any s (a + 1) op T w0 _ _ HSA.out hs)
      by_cases k41 : Rp.pk s (a + 1) = 41
      · have hlt2 := Rp.pk_lt 41 (by decide) k41
        rw [k41] at HP2
        have HBK := Lib.hid (Rp.brk_none (inner := inner) k41)
        clear k41
        go_wp2_with (fail)
        go_at_call 120
        refine HP2.out.mono ?_
        clear HP2 HSA HS c0 c1 c2 f1 f2
        rintro ex w2 ⟨rfl, hst⟩
        obtain ⟨c0, c1, c2, f1, f2⟩ := Rp.rtAt hst
        rw [Rp.nc] at c1
        have hst2 := Rp.rtSetA hst ((a : Int) + 1 + 1)
        rw [← Rp.nc, ← Rp.nc] at hst2
        have HSX := Lib.hid ((Rp.St.leaf (k := 2) (c := Rp.ints Dm.zero) hst2).pick [2, 0, 1] 3 (ρ := aCel w.heap.size 27 #[.int .i64 0, .int .u64 0, .int .u64 0, .int .u64 0, .int .u64 0, .slice none 0 0] :: Rp.kidsA [] none 0 Rp.empty :: Rp.rt T s (a + 1 + 1 : Nat) op :: μ) rfl rfl)
        rw [Rp.nc, Rp.nc] at HSX
        have hneT : ¬ w.heap.size = T := by
          intro e
          have hs9 := hst.sep
          simp [Rp.rt, aCel, e] at hs9
        have hneT2 : ¬ T = w.heap.size := fun e => hneT e.symm
        have HS := HSX
        clear hst hst2 HSX
        obtain ⟨x0, x1, x2, x3, x4, x5⟩ := Rx.cel6 HS.out 0 rfl
        clear x0 x1 x2 x3 x4 x5
        obtain ⟨x0, x1, x2, x3, x4, x5⟩ := Rx.cel6 HS.out 0 rfl
        obtain ⟨v0, v1, v2, v3, v4, v5⟩ := Rp.free6 HS.out 0 rfl
        have HS9 := Lib.hid (Rp.set6 HS.out (.int .i64 2) (.int .u64 0) (.int .u64 0) (.int .u64 0) (.int .u64 0) (.slice none 0 0))
        clear HS
        go_wp2
        refine bodyPost_ret (results_row_tmp rfl _ _ w.heap.size 27 _ _ rfl (HS9.out.heapAt 0 rfl) Try.underlying27 rfl (by kernel_rfl)) rfl ?_
        exact Rp.leftS_ok (t := Rp.empty) (b := a + 1 + 1) HBK.out hlt2 Rp.fine_empty rfl (by rw [Rp.nc, Rp.nc]; exact HS9.out.drop)
      · obtain ⟨PQ, hPQ⟩ : ∃ PQ, Rp.pk s (a + 1) = PQ := ⟨_, rfl⟩
        have e41 : (PQ == 41) = false := by rw [beq_eq_false_iff_ne, ← hPQ]; exact k41
        rw [hPQ] at HP2
        have HBK := Lib.hid (Rp.brk_in (inner := inner) k41)
        clear k41 hPQ
        go_wp2_with (fail)
        go_at_call 120
        refine HP2.out.mono ?_
        clear HP2 HSA HS c0 c1 c2 f1 f2
        rintro ex w2 ⟨rfl, hst⟩
        obtain ⟨c0, c1, c2, f1, f2⟩ := Rp.rtAt hst
        have HS2 := Lib.hid (Rp.rtSetO hst (op + 1))
        clear hst
        go_wp2_with (fail)
        go_at_call 55
        refine (HIN.out (a + 1) T w0 _ _ hlt HS2.out).mono ?_
        clear HS2 c0 c1 c2 f1 f2
        rintro ex w3 ⟨t, ao, c, fp, hf, hout⟩
        have HF := Lib.hid hf
        clear hf
        rcases hout with ⟨b, hr, hb, rfl, hst⟩ | ⟨e, p, g, a', hr, he, rfl, hst⟩
        · have hst4 := (hst.alloc (Rp.rxA t ao c) 27).pick [2, 0, 1, 3] 4 (ρ := Rp.rt T s b (op + 1) :: aCel w3.heap.size 27 (Rp.rxA t ao c) :: Rp.kidsA fp ao c t :: aCel w.heap.size 27 #[.int .i64 0, .int .u64 0, .int .u64 0, .int .u64 0, .int .u64 0, .slice none 0 0] :: μ) rfl rfl
          have HS4 := Lib.hid hst4
          have HS5 := Lib.hid (Rp.rtSetO hst4 op)
          unfold Rp.rxA at HS4 HS5 ⊢
          clear hst hst4
          obtain ⟨c0, c1, c2, f1, f2⟩ := Rp.rtAt HS4.out
          have HP3 := Lib.hid (rPeek_any s b op T w0 _ _ HS5.out hs)
          have hbw : IntKind.i64.wrap ((b : Int) + 1) = (b : Int) + 1 := IntWalk.i64_in _ (by omega)
          by_cases q41 : Rp.pk s b = 41
          · have hlb := Rp.pk_lt 41 (by decide) q41
            rw [q41] at HP3
            have HRR := Lib.hid (show Rp.brk s inner a = .ok (t, b + 1) by rw [HBK.out, hr]; simp only [Rp.on]; rw [if_pos q41])
            clear q41 hr
            go_wp2_with (fail)
            go_at_call 120
            refine HP3.out.mono ?_
            clear HP3 HS4 HS5 c0 c1 c2 f1 f2
            rintro ex w5 ⟨rfl, hst⟩
            obtain ⟨c0, c1, c2, f1, f2⟩ := Rp.rtAt hst
            obtain ⟨z0, z1, z2, z3, z4, z5⟩ := Rx.cel6 hst 1 rfl
            have hl3 := Rp.belowAt hst 0 rfl
            have hneT : ¬ w3.heap.size = T := by
              intro e
              have hs9 := hst.sep
              simp [Rp.rt, aCel, e] at hs9
            have hneT2 : ¬ T = w3.heap.size := fun e => hneT e.symm
            have hneB : ¬ w.heap.size = T := by
              intro e
              have hs9 := hst.sep
              simp [Rp.rt, aCel, e] at hs9
            have hneB2 : ¬ T = w.heap.size := fun e => hneB e.symm
            have hst2 := Rp.rtSetA hst ((b : Int) + 1)
            rw [← Rp.nc] at hst2
            have HSX := Lib.hid (hst2.pick [3, 2, 0] 4 (ρ := aCel w.heap.size 27 #[.int .i64 0, .int .u64 0, .int .u64 0, .int .u64 0, .int .u64 0, .slice none 0 0] :: Rp.kidsA fp ao c t :: Rp.rt T s (b + 1 : Nat) op :: μ) rfl rfl)
            rw [Rp.nc] at HSX
            have HS := HSX
            clear hst hst2 HSX hl3
            obtain ⟨x0, x1, x2, x3, x4, x5⟩ := Rx.cel6 HS.out 0 rfl
            obtain ⟨v0, v1, v2, v3, v4, v5⟩ := Rp.free6 HS.out 0 rfl
            have HS9 := Lib.hid (Rp.set6 HS.out (.int .i64 t.kind) (.int .u64 (Rp.cw t 0)) (.int .u64 (Rp.cw t 1)) (.int .u64 (Rp.cw t 2)) (.int .u64 (Rp.cw t 3)) (.slice ao t.kids.length c))
            clear HS
            go_wp2
            refine bodyPost_ret (results_row_tmp rfl _ _ w.heap.size 27 _ _ rfl (HS9.out.heapAt 0 rfl) Try.underlying27 rfl (by kernel_rfl)) rfl ?_
            exact Rp.leftS_ok (t := t) (b := b + 1) HRR.out hlb HF.out rfl (by rw [Rp.nc]; exact HS9.out.drop)
          · obtain ⟨PZ, hPZ⟩ : ∃ PZ, Rp.pk s b = PZ := ⟨_, rfl⟩
            have e41b : (PZ != 41) = true := by rw [bne_iff_ne, ← hPZ]; exact q41
            rw [hPZ] at HP3
            have HRR := Lib.hid (show Rp.brk s inner a = .error (6, b) by rw [HBK.out, hr]; simp only [Rp.on]; rw [if_neg q41])
            clear q41 hr hPZ
            go_wp2_with (fail)
            go_at_call 120
            refine HP3.out.mono ?_
            clear HP3 HS4 HS5 c0 c1 c2 f1 f2
            rintro ex w5 ⟨rfl, hst⟩
            go_wp2_with (fail)
            go_at_call 56
            refine (rWrong_any s b op T w0 _ _ hst).mono ?_
            clear hst
            rintro ex w6 ⟨g, rfl, hst⟩
            obtain ⟨c0, c1, c2, f1, f2⟩ := Rp.rtAt (hst.pick [1] 5 (ρ := Rp.rt T s b op :: μ) rfl rfl)
            obtain ⟨z0, z1, z2, z3, z4, z5⟩ := Rx.cel6 hst 2 rfl
            have hneT : ¬ w3.heap.size = T := by
              intro e
              have hs9 := hst.sep
              simp [Rp.rt, Rp.sp, aCel, e] at hs9
            have hneT2 : ¬ T = w3.heap.size := fun e => hneT e.symm
            have hneB : ¬ w.heap.size = T := by
              intro e
              have hs9 := hst.sep
              simp [Rp.rt, Rp.sp, aCel, e] at hs9
            have hneB2 : ¬ T = w.heap.size := fun e => hneB e.symm
            have hst2 := Rp.rtSetA (hst.pick [1, 4, 3, 0] 5 (ρ := Rp.rt T s b op :: aCel w.heap.size 27 #[.int .i64 0, .int .u64 0, .int .u64 0, .int .u64 0, .int .u64 0, .slice none 0 0] :: Rp.kidsA fp ao c t :: Rp.sp g 6 b :: μ) rfl rfl) ((b : Int) + 1)
            have HS := Lib.hid (hst2.pick [1, 2, 3, 0] 4 (ρ := aCel w.heap.size 27 #[.int .i64 0, .int .u64 0, .int .u64 0, .int .u64 0, .int .u64 0, .slice none 0 0] :: Rp.kidsA fp ao c t :: Rp.sp g 6 b :: Rp.rt T s ((b : Int) + 1) op :: μ) rfl rfl)
            clear hst hst2
            obtain ⟨x0, x1, x2, x3, x4, x5⟩ := Rx.cel6 HS.out 0 rfl
            obtain ⟨v0, v1, v2, v3, v4, v5⟩ := Rp.free6 HS.out 0 rfl
            have HS9 := Lib.hid (Rp.set6 HS.out (.int .i64 t.kind) (.int .u64 (Rp.cw t 0)) (.int .u64 (Rp.cw t 1)) (.int .u64 (Rp.cw t 2)) (.int .u64 (Rp.cw t 3)) (.slice ao t.kids.length c))
            clear HS
            go_wp2
            refine bodyPost_ret (results_row_tmp rfl _ _ w.heap.size 27 _ _ rfl (HS9.out.heapAt 0 rfl) Try.underlying27 rfl (by kernel_rfl)) rfl ?_
            exact Rp.leftS_bad (t := t) HRR.out (.inl rfl) HF.out rfl HS9.out.drop
        · have HRR := Lib.hid (show Rp.brk s inner a = .error (e, p) by rw [HBK.out, hr]; rfl)
          have HEE := Lib.hid he
          obtain ⟨ax, hax⟩ : ∃ x, IntKind.i64.wrap (a' + 1) = x := ⟨_, rfl⟩
          have hst4 := (hst.alloc (Rp.rxA t ao c) 27).pick [3, 0, 1, 2, 4] 5 (ρ := Rp.rt T s a' (op + 1) :: aCel w3.heap.size 27 (Rp.rxA t ao c) :: Rp.kidsA fp ao c t :: Rp.sp g e p :: aCel w.heap.size 27 #[.int .i64 0, .int .u64 0, .int .u64 0, .int .u64 0, .int .u64 0, .slice none 0 0] :: μ) rfl rfl
          have HS4 := Lib.hid hst4
          have HS5 := Lib.hid (Rp.rtSetA (Rp.rtSetO hst4 op) ax)
          unfold Rp.rxA at HS4 HS5 ⊢
          obtain ⟨c0, c1, c2, f1, f2⟩ := Rp.rtAt HS4.out
          obtain ⟨z0, z1, z2, z3, z4, z5⟩ := Rx.cel6 HS4.out 1 rfl
          have hneT : ¬ w3.heap.size = T := by
            intro e'
            have hs9 := hst4.sep
            simp [Rp.rt, Rp.sp, aCel, e'] at hs9
          have hneT2 : ¬ T = w3.heap.size := fun e => hneT e.symm
          have hneB : ¬ w.heap.size = T := by
            intro e'
            have hs9 := hst4.sep
            simp [Rp.rt, Rp.sp, aCel, e'] at hs9
          have hneB2 : ¬ T = w.heap.size := fun e => hneB e.symm
          have HS := Lib.hid (HS5.out.pick [4, 2, 3, 0] 5 (ρ := aCel w.heap.size 27 #[.int .i64 0, .int .u64 0, .int .u64 0, .int .u64 0, .int .u64 0, .slice none 0 0] :: Rp.kidsA fp ao c t :: Rp.sp g e p :: Rp.rt T s ax op :: μ) rfl rfl)
          obtain ⟨x0, x1, x2, x3, x4, x5⟩ := Rx.cel6 HS4.out 4 rfl
          obtain ⟨v0, v1, v2, v3, v4, v5⟩ := Rp.free6 HS4.out 4 rfl
          clear hst hst4 HS4 HS5 hr he
          obtain ⟨x0, x1, x2, x3, x4, x5⟩ := Rx.cel6 HS.out 0 rfl
          obtain ⟨v0, v1, v2, v3, v4, v5⟩ := Rp.free6 HS.out 0 rfl
          have HS9 := Lib.hid (Rp.set6 HS.out (.int .i64 t.kind) (.int .u64 (Rp.cw t 0)) (.int .u64 (Rp.cw t 1)) (.int .u64 (Rp.cw t 2)) (.int .u64 (Rp.cw t 3)) (.slice ao t.kids.length c))
          clear HS
          go_wp2
          refine bodyPost_ret (results_row_tmp rfl _ _ w.heap.size 27 _ _ rfl (HS9.out.heapAt 0 rfl) Try.underlying27 rfl (by kernel_rfl)) rfl ?_
          exact Rp.leftS_bad (t := t) HRR.out HEE.out HF.out rfl HS9.out.drop
  · clear HBR
    obtain ⟨PA, hPA⟩ : ∃ PA, Rp.pk s a = PA := ⟨_, rfl⟩
    have e40 : (PA == 40) = false := by rw [beq_eq_false_iff_ne, ← hPA]; exact k40
    rw [hPA] at HPK
    by_cases k91 : Rp.pk s a = 91
    · have hlt := Rp.pk_lt 91 (by decide) k91
      obtain rfl : PA = 91 := hPA.symm.trans k91
      clear hPA k40 e40
      go_enter Try.func181, Try.ntmps181
      go_wp2_with (fail)
      go_at_call 120
      refine HPK.out.mono ?_
      clear HPK
      rintro ex w1 ⟨rfl, hst⟩
      have HS := Lib.hid hst
      clear hst
      obtain ⟨c0, c1, c2, f1, f2⟩ := Rp.rtAt HS.out
      have HSA : Hid (St w0 _ (Rp.rt T s (a + 1 : Nat) op :: aCel w.heap.size 27 #[.int .i64 0, .int .u64 0, .int .u64 0, .int .u64 0, .int .u64 0, .slice none 0 0] :: μ)) := Lib.hid (by rw [Rp.nc]; exact Rp.rtSetA HS.out ((a : Int) + 1))
      have HP2 := Lib.hid (rPeek_any s (a + 1) op T w0 _ _ HSA.out hs)
      by_cases k93 : Rp.pk s (a + 1) = 93
      · have hlt2 := Rp.pk_lt 93 (by decide) k93
        have HRR := Lib.hid (Rp.atom_none (br := br) k91 k93)
        rw [k93] at HP2
        clear k91 k93
        go_wp2_with (fail)
        go_at_call 120
        refine HP2.out.mono ?_
        clear HP2 HSA HS c0 c1 c2 f1 f2
        rintro ex w2 ⟨rfl, hst⟩
        obtain ⟨c0, c1, c2, f1, f2⟩ := Rp.rtAt hst
        rw [Rp.nc] at c1
        obtain ⟨x0, x1, x2, x3, x4, x5⟩ := Rx.cel6 hst 1 rfl
        obtain ⟨v0, v1, v2, v3, v4, v5⟩ := Rp.free6 hst 1 rfl
        have hneB : ¬ w.heap.size = T := by
          intro e
          have hs9 := hst.sep
          simp [Rp.rt, aCel, e] at hs9
        have hneB2 : ¬ T = w.heap.size := fun e => hneB e.symm
        have hst2 := Rp.rtSetA hst ((a : Int) + 1 + 1)
        have HS := Lib.hid ((Rp.St.leaf (k := 1) (c := Rp.ints Dm.zero) hst2).pick [2, 0, 1] 3 (ρ := aCel w.heap.size 27 #[.int .i64 0, .int .u64 0, .int .u64 0, .int .u64 0, .int .u64 0, .slice none 0 0] :: Rp.kidsA [] none 0 Rp.none_ :: Rp.rt T s ((a : Int) + 1 + 1) op :: μ) rfl rfl)
        clear hst hst2
        obtain ⟨x0, x1, x2, x3, x4, x5⟩ := Rx.cel6 HS.out 0 rfl
        obtain ⟨v0, v1, v2, v3, v4, v5⟩ := Rp.free6 HS.out 0 rfl
        have HS9 := Lib.hid (Rp.set6 HS.out (.int .i64 1) (.int .u64 0) (.int .u64 0) (.int .u64 0) (.int .u64 0) (.slice none 0 0))
        clear HS
        go_wp2
        refine bodyPost_ret (results_row_tmp rfl _ _ w.heap.size 27 _ _ rfl (HS9.out.heapAt 0 rfl) Try.underlying27 rfl (by kernel_rfl)) rfl ?_
        exact Rp.leftS_ok (t := Rp.none_) (b := a + 1 + 1) HRR.out hlt2 Rp.fine_none rfl (by rw [Rp.nc, Rp.nc]; exact HS9.out.drop)
      · obtain ⟨PQ, hPQ⟩ : ∃ PQ, Rp.pk s (a + 1) = PQ := ⟨_, rfl⟩
        have e93 : (PQ == 93) = false := by rw [beq_eq_false_iff_ne, ← hPQ]; exact k93
        rw [hPQ] at HP2
        have HRR := Lib.hid (Rp.atom_cls (br := br) k91 k93)
        clear k91 k93 hPQ
        go_wp2_with (fail)
        go_at_call 120
        refine HP2.out.mono ?_
        clear HP2 HSA HS c0 c1 c2 f1 f2
        rintro ex w2 ⟨rfl, hst⟩
        have HCL := Lib.hid (rrClass_any s (a + 1) op hlt hs T w0 _ _ hst)
        have HFT := Lib.hid (Rp.clsAt_fit (s := s) (a := a + 1) hlt)
        obtain ⟨CL, hCL⟩ : ∃ r, Rp.clsAt s (a + 1) = r := ⟨_, rfl⟩
        rw [hCL] at HCL HFT HRR
        clear hCL hst
        go_wp2_with (fail)
        go_at_call 211
        refine HCL.out.mono ?_
        clear HCL
        intro ex w4 hl
        cases CL with
        | ok clb =>
          obtain ⟨cl, b⟩ := clb
          obtain ⟨hex, hst⟩ := hl
          obtain ⟨-, hb, hok, -⟩ := HFT.out
          obtain ⟨q0, q1, q2, q3, rfl⟩ := Cs.okFour hok
          have HOK := Lib.hid hok
          have hex : ex = .returned (.tuple #[.agg #[.int .u64 q0, .int .u64 q1, .int .u64 q2, .int .u64 q3], .pointer none]) := hex
          subst hex
          obtain ⟨x0, x1, x2, x3, x4, x5⟩ := Rx.cel6 (hst.alloc #[.int .u64 (q0 : Int), .int .u64 (q1 : Int), .int .u64 (q2 : Int), .int .u64 (q3 : Int)] 24) 2 rfl
          have HS := Lib.hid (((Rp.St.leaf (k := 3) (c := Rp.ints [q0, q1, q2, q3]) (hst.alloc #[.int .u64 (q0 : Int), .int .u64 (q1 : Int), .int .u64 (q2 : Int), .int .u64 (q3 : Int)] 24)).pick [3, 0, 2] 4 (ρ := aCel w.heap.size 27 #[.int .i64 0, .int .u64 0, .int .u64 0, .int .u64 0, .int .u64 0, .slice none 0 0] :: Rp.kidsA [] none 0 (Rp.byte [q0, q1, q2, q3]) :: Rp.rt T s b op :: μ) rfl rfl))
          obtain ⟨z0, z1, z2, z3⟩ := Cs.at4 (hst.alloc #[.int .u64 (q0 : Int), .int .u64 (q1 : Int), .int .u64 (q2 : Int), .int .u64 (q3 : Int)] 24) 0 rfl
          clear hst hok
          obtain ⟨x0, x1, x2, x3, x4, x5⟩ := Rx.cel6 HS.out 0 rfl
          obtain ⟨v0, v1, v2, v3, v4, v5⟩ := Rp.free6 HS.out 0 rfl
          have HS9 := Lib.hid (Rp.set6 HS.out (.int .i64 3) (.int .u64 q0) (.int .u64 q1) (.int .u64 q2) (.int .u64 q3) (.slice none 0 0))
          clear HS
          go_wp2
          refine bodyPost_ret (results_row_tmp rfl _ _ w.heap.size 27 _ _ rfl (HS9.out.heapAt 0 rfl) Try.underlying27 rfl (by kernel_rfl)) rfl ?_
          exact Rp.leftS_ok (t := Rp.byte [q0, q1, q2, q3]) (HRR.out.trans rfl) hb (Rp.fine_byte HOK.out) rfl HS9.out.drop
        | error ep =>
          obtain ⟨e, p⟩ := ep
          obtain ⟨g, a', hex, hst⟩ := hl
          have HEE := Lib.hid HFT.out.1
          have hex : ex = .returned (.tuple #[.agg #[.int .u64 0, .int .u64 0, .int .u64 0, .int .u64 0], .pointer (some ⟨g, 0, none⟩)]) := hex
          subst hex
          have HS := Lib.hid (((Rp.St.leaf (k := 3) (c := Rp.ints Dm.zero) (hst.alloc #[.int .u64 0, .int .u64 0, .int .u64 0, .int .u64 0] 24)).pick [4, 0, 2, 3] 5 (ρ := aCel w.heap.size 27 #[.int .i64 0, .int .u64 0, .int .u64 0, .int .u64 0, .int .u64 0, .slice none 0 0] :: Rp.kidsA [] none 0 (Rp.byte Dm.zero) :: Rp.sp g e p :: Rp.rt T s a' op :: μ) rfl rfl))
          obtain ⟨z0, z1, z2, z3⟩ := Rp.at4z (hst.alloc #[.int .u64 0, .int .u64 0, .int .u64 0, .int .u64 0] 24) 0 rfl
          clear hst
          obtain ⟨x0, x1, x2, x3, x4, x5⟩ := Rx.cel6 HS.out 0 rfl
          obtain ⟨v0, v1, v2, v3, v4, v5⟩ := Rp.free6 HS.out 0 rfl
          have HS9 := Lib.hid (Rp.set6 HS.out (.int .i64 3) (.int .u64 0) (.int .u64 0) (.int .u64 0) (.int .u64 0) (.slice none 0 0))
          clear HS
          go_wp2
          refine bodyPost_ret (results_row_tmp rfl _ _ w.heap.size 27 _ _ rfl (HS9.out.heapAt 0 rfl) Try.underlying27 rfl (by kernel_rfl)) rfl ?_
          exact Rp.leftS_bad (t := Rp.byte Dm.zero) (HRR.out.trans rfl) HEE.out (Rp.fine_byte Rp.zero_ok) rfl HS9.out.drop
    have e91 : (PA == 91) = false := by rw [beq_eq_false_iff_ne, ← hPA]; exact k91
    by_cases k46 : Rp.pk s a = 46
    · have hlt := Rp.pk_lt 46 (by decide) k46
      have HRR := Lib.hid (Rp.atom_dot (br := br) k46)
      obtain rfl : PA = 46 := hPA.symm.trans k46
      have hok := Cs.ok_of fun b => decide (b ≠ 10)
      obtain ⟨q0, q1, q2, q3, hq⟩ := Cs.okFour hok
      have HWH := Lib.hid (fun W h => rWhere_any 210 #[] (fun b => decide (b ≠ 10)) w0 W [] (rrDot_any w0 []) (Fc.callC2 Try.func210 (by kernel_rfl) (by kernel_rfl)) h)
      rw [show Cs.clV (Cs.of fun b => decide (b ≠ 10)) = .agg #[.int .u64 q0, .int .u64 q1, .int .u64 q2, .int .u64 q3] from by rw [hq]; rfl] at HWH
      rw [hq] at hok HRR
      have HOK := Lib.hid hok
      clear hPA k40 e40 k91 e91 k46 hq hok
      go_enter Try.func181, Try.ntmps181
      go_wp2_with (fail)
      go_at_call 120
      refine HPK.out.mono ?_
      clear HPK
      rintro ex w1 ⟨rfl, hst⟩
      have HS := Lib.hid hst
      clear hst
      obtain ⟨c0, c1, c2, f1, f2⟩ := Rp.rtAt HS.out
      have HSA : Hid (St w0 _ (Rp.rt T s (a + 1 : Nat) op :: aCel w.heap.size 27 #[.int .i64 0, .int .u64 0, .int .u64 0, .int .u64 0, .int .u64 0, .slice none 0 0] :: μ)) := Lib.hid (by rw [Rp.nc]; exact Rp.rtSetA HS.out ((a : Int) + 1))
      have HS2 := HSA
      have hneB : ¬ w.heap.size = T := by
        intro e
        have hs9 := HSA.out.sep
        simp [Rp.rt, aCel, e] at hs9
      have hneB2 : ¬ T = w.heap.size := fun e => hneB e.symm
      clear HSA
      go_wp2_with (fail)
      go_at_call 209
      refine (HWH.out _ (HS2.out.pick (ρ := []) [] (μ.length + 2) (by simp [picks]) (by simp))).mono ?_
      rintro ex w4 ⟨rfl, hb4⟩
      have hst := HS2.out.call hb4
      have HS := Lib.hid (((Rp.St.leaf (k := 3) (c := Rp.ints [q0, q1, q2, q3]) hst).pick [2, 0, 1] 3 (ρ := aCel w.heap.size 27 #[.int .i64 0, .int .u64 0, .int .u64 0, .int .u64 0, .int .u64 0, .slice none 0 0] :: Rp.kidsA [] none 0 (Rp.byte [q0, q1, q2, q3]) :: Rp.rt T s (a + 1 : Nat) op :: μ) rfl rfl))
      clear hst hb4 HS2 c0 c1 c2 f1 f2
      obtain ⟨x0, x1, x2, x3, x4, x5⟩ := Rx.cel6 HS.out 0 rfl
      obtain ⟨v0, v1, v2, v3, v4, v5⟩ := Rp.free6 HS.out 0 rfl
      have HS9 := Lib.hid (Rp.set6 HS.out (.int .i64 3) (.int .u64 q0) (.int .u64 q1) (.int .u64 q2) (.int .u64 q3) (.slice none 0 0))
      clear HS
      go_wp2
      refine bodyPost_ret (results_row_tmp rfl _ _ w.heap.size 27 _ _ rfl (HS9.out.heapAt 0 rfl) Try.underlying27 rfl (by kernel_rfl)) rfl ?_
      exact Rp.leftS_ok (t := Rp.byte [q0, q1, q2, q3]) (b := a + 1) HRR.out hlt (Rp.fine_byte HOK.out) rfl HS9.out.drop
    have e46 : (PA == 46) = false := by rw [beq_eq_false_iff_ne, ← hPA]; exact k46
    have HRR := Lib.hid (Rp.atom_chr (br := br) k40 k91 k46)
    clear hPA k40 k91 k46
    go_enter Try.func181, Try.ntmps181
    go_wp2_with (fail)
    go_at_call 120
    refine HPK.out.mono ?_
    clear HPK
    rintro ex w1 ⟨rfl, hst⟩
    have HS := Lib.hid hst
    clear hst
    obtain ⟨c0, c1, c2, f1, f2⟩ := Rp.rtAt HS.out
    have HCH := Lib.hid (rrChar_any s a op ha hs T w0 _ _ HS.out)
    have HFT := Lib.hid (Rp.chr_fit (s := s) (a := a) ha)
    obtain ⟨CH, hCH⟩ : ∃ r, Rp.chr s a = r := ⟨_, rfl⟩
    rw [hCH] at HCH HFT HRR
    clear hCH HS c0 c1 c2 f1 f2
    go_wp2_with (fail)
    go_at_call 212
    refine HCH.out.mono ?_
    clear HCH
    intro ex w4 hl
    cases CH with
    | ok xb =>
      obtain ⟨x, b⟩ := xb
      obtain ⟨rfl, hst⟩ := hl
      obtain ⟨-, hb, hx⟩ := HFT.out
      have hst2 := hst.alloc #[.int .i64 (x : Int)] 3
      have hok := Cs.ok_of fun y => decide (y = x)
      obtain ⟨q0, q1, q2, q3, hq⟩ := Cs.okFour hok
      have HWH := Lib.hid (fun W h => rWhere_any 213 #[.pointer (some ⟨w4.heap.size, 0, none⟩)] (fun y => decide (y = x)) w0 W [aCel w4.heap.size 3 #[.int .i64 x]] (rrOne_any x w0 _) (Fc.callC2 Try.func213 (by kernel_rfl) (by kernel_rfl)) h)
      rw [show Cs.clV (Cs.of fun y => decide (y = x)) = .agg #[.int .u64 q0, .int .u64 q1, .int .u64 q2, .int .u64 q3] from by rw [hq]; rfl] at HWH
      have HQ := Lib.hid (show (Cs.of fun y => decide (y = x)) = [q0, q1, q2, q3] from hq)
      rw [hq] at hok
      have HOK := Lib.hid hok
      have HS2 := Lib.hid hst2
      clear hst hst2 hok hq
      go_wp2_with (fail)
      go_at_call 209
      refine (HWH.out _ (HS2.out.pick (ρ := [aCel w4.heap.size 3 #[.int .i64 x]]) [0] (μ.length + 3) (by simp [picks]) (by simp))).mono ?_
      rintro ex w5 ⟨rfl, hb5⟩
      have HS := Lib.hid (((Rp.St.leaf (k := 3) (c := Rp.ints [q0, q1, q2, q3]) (HS2.out.call hb5)).pick [3, 0, 2] 4 (ρ := aCel w.heap.size 27 #[.int .i64 0, .int .u64 0, .int .u64 0, .int .u64 0, .int .u64 0, .slice none 0 0] :: Rp.kidsA [] none 0 (Rp.byte [q0, q1, q2, q3]) :: Rp.rt T s b op :: μ) rfl rfl))
      clear HS2 hb5
      obtain ⟨x0, x1, x2, x3, x4, x5⟩ := Rx.cel6 HS.out 0 rfl
      obtain ⟨v0, v1, v2, v3, v4, v5⟩ := Rp.free6 HS.out 0 rfl
      have HS9 := Lib.hid (Rp.set6 HS.out (.int .i64 3) (.int .u64 q0) (.int .u64 q1) (.int .u64 q2) (.int .u64 q3) (.slice none 0 0))
      clear HS
      go_wp2
      refine bodyPost_ret (results_row_tmp rfl _ _ w.heap.size 27 _ _ rfl (HS9.out.heapAt 0 rfl) Try.underlying27 rfl (by kernel_rfl)) rfl ?_
      exact Rp.leftS_ok (t := Rp.byte [q0, q1, q2, q3]) (HRR.out.trans (by rw [← HQ.out]; rfl)) hb (Rp.fine_byte HOK.out) rfl HS9.out.drop
    | error ep =>
      obtain ⟨e, p⟩ := ep
      obtain ⟨g, a', rfl, hst⟩ := hl
      have HEE := Lib.hid HFT.out.1
      have hst2 := hst.alloc #[.int .i64 ((0 : Nat) : Int)] 3
      have hok := Cs.ok_of fun y => decide (y = 0)
      obtain ⟨q0, q1, q2, q3, hq⟩ := Cs.okFour hok
      have HWH := Lib.hid (fun W h => rWhere_any 213 #[.pointer (some ⟨w4.heap.size, 0, none⟩)] (fun y => decide (y = 0)) w0 W [aCel w4.heap.size 3 #[.int .i64 ((0 : Nat) : Int)]] (rrOne_any 0 w0 _) (Fc.callC2 Try.func213 (by kernel_rfl) (by kernel_rfl)) h)
      rw [show Cs.clV (Cs.of fun y => decide (y = 0)) = .agg #[.int .u64 q0, .int .u64 q1, .int .u64 q2, .int .u64 q3] from by rw [hq]; rfl] at HWH
      rw [hq] at hok
      have HOK := Lib.hid hok
      have HS2 := Lib.hid hst2
      clear hst hst2 hok hq
      go_wp2_with (fail)
      go_at_call 209
      refine (HWH.out _ (HS2.out.pick (ρ := [aCel w4.heap.size 3 #[.int .i64 ((0 : Nat) : Int)]]) [0] (μ.length + 4) (by simp [picks]) (by simp))).mono ?_
      rintro ex w5 ⟨rfl, hb5⟩
      have HS := Lib.hid (((Rp.St.leaf (k := 3) (c := Rp.ints [q0, q1, q2, q3]) (HS2.out.call hb5)).pick [4, 0, 2, 3] 5 (ρ := aCel w.heap.size 27 #[.int .i64 0, .int .u64 0, .int .u64 0, .int .u64 0, .int .u64 0, .slice none 0 0] :: Rp.kidsA [] none 0 (Rp.byte [q0, q1, q2, q3]) :: Rp.sp g e p :: Rp.rt T s a' op :: μ) rfl rfl))
      clear HS2 hb5
      obtain ⟨x0, x1, x2, x3, x4, x5⟩ := Rx.cel6 HS.out 0 rfl
      obtain ⟨v0, v1, v2, v3, v4, v5⟩ := Rp.free6 HS.out 0 rfl
      have HS9 := Lib.hid (Rp.set6 HS.out (.int .i64 3) (.int .u64 q0) (.int .u64 q1) (.int .u64 q2) (.int .u64 q3) (.slice none 0 0))
      clear HS
      go_wp2
      refine bodyPost_ret (results_row_tmp rfl _ _ w.heap.size 27 _ _ rfl (HS9.out.heapAt 0 rfl) Try.underlying27 rfl (by kernel_rfl)) rfl ?_
      exact Rp.leftS_bad (t := Rp.byte [q0, q1, q2, q3]) (HRR.out.trans rfl) HEE.out (Rp.fine_byte HOK.out) rfl HS9.out.drop
end Go.Proofs.Ytfelikfppjlcmaa

/-
  rep of package rex's reader.
-/
namespace Go.Proofs.Ytfelikfppjlcmaa
set_option linter.unusedVariables false
set_option linter.unusedSimpArgs false
open Go.ChangeShapes Go.WideShapes Go.ChangeAt Go.RowKit

namespace Rp
def RepRel (w0 : World) (R : Nat) (s : ByteArray) (op : Int) (μ : List Asrt) (B O : Nat) (RES : Re Rx) (gk : Nat) (wr : World) : Prop :=
  ∃ (t : Rx) (b : Nat) (e : Int) (ao : Option Addr) (c : Nat) (fp : List Nat), Hid (Fine t) ∧ b ≤ s.size ∧ Hid ((e = 0 ∧ siz t ≤ 103 * b ∧ gk = s.size + 1 - b ∧ ∃ f, s.size < b + f ∧ repL s f t b = RES) ∨ ((e = 6 ∨ e = 7) ∧ RES = .error (e, b))) ∧
    St w0 wr (rd R s b op e :: aCel O 27 (rxA t ao c) :: kidsA fp ao c t :: aCel B 27 #[.int .i64 0, .int .u64 0, .int .u64 0, .int .u64 0, .int .u64 0, .slice none 0 0] :: μ)
theorem ltAt {w0 w : World} {μ : List Asrt} {g : Nat} {T : TypeId} {cs : Array Value} (h : St w0 w μ) (i : Nat) (hA : μ[i]? = some (aCel g T cs)) : g < w.heap.size := ((h.nth i hA).lo _ (.head _) g (by simp [aCel])).2
theorem repL_star {s : ByteArray} {f b : Nat} {t : Rx} (h : pk s b = 42) : repL s (f + 1) t b = repL s f (star t) (b + 1) := by rw [repL, if_pos h]
theorem repL_plus {s : ByteArray} {f b : Nat} {t : Rx} (h : pk s b = 43) : repL s (f + 1) t b = repL s f (plus t) (b + 1) := by rw [repL, if_neg (by omega), if_pos h]
theorem repL_quest {s : ByteArray} {f b : Nat} {t : Rx} (h : pk s b = 63) : repL s (f + 1) t b = repL s f (quest t) (b + 1) := by rw [repL, if_neg (by omega), if_neg (by omega), if_pos h]
theorem repL_end {s : ByteArray} {f b : Nat} {t : Rx} (h : ¬ pk s b = 42) (h2 : ¬ pk s b = 43) (h3 : ¬ pk s b = 63) : repL s (f + 1) t b = .ok (t, b) := by rw [repL, if_neg h, if_neg h2, if_neg h3]
theorem siz_star' (a : Rx) : siz (star a) = siz a + 1 := siz_star a
theorem plus_small {t : Rx} (h : siz t ≤ 100) : plus t = two 4 t (star t) := by unfold plus; rw [if_pos h]
theorem plus_big {t : Rx} (h : ¬ siz t ≤ 100) : plus t = two 4 t (star empty) := by unfold plus; rw [if_neg h]
theorem isB_dec {s : ByteArray} {a : Nat} {b : Int} {B : Prop} [Decidable B] (h : pk s a = b ↔ B) : isB s a 0 b = decide B := by rw [isB_ok, decide_eq_decide]; exact h
theorem kidsEnc {w0 w : World} {μ : List Asrt} {fp : List Nat} {ao : Option Addr} {c : Nat} {t : Rx} (hf : Fine t) (h : St w0 w μ) (i : Nat) (hA : μ[i]? = some (kidsA fp ao c t)) : ∃ n, (Rx.enc n).R (fun b => b < w.heap.size) w (rxA t ao c).toList t := rxA_any hf (h.encAt i hA)
end Rp


set_option maxRecDepth 100000 in
set_option maxHeartbeats 8000000 in
theorem rpRep_any (s : ByteArray) (op : Int) (at_ : Nat → Rp.Re Rx) (hs : s.size ≤ 300) (hfit : Rp.Fits s at_) (hat : Rp.TC 177 s at_ op) : Rp.TC 155 s (Rp.rep s at_) op := by
  intro a R w0 w μ ha h
  have hst := (h.alloc #[.int .i64 0, .int .u64 0, .int .u64 0, .int .u64 0, .int .u64 0, .slice none 0 0] 27).get2
  have HAT := Lib.hid (hat a R w0 _ _ ha hst)
  have HFIT := Lib.hid (hfit a ha)
  clear h hst hat hfit
  unfold Rp.rep
  obtain ⟨A, hA⟩ : ∃ A, at_ a = A := ⟨_, rfl⟩
  rw [hA] at HAT HFIT ⊢
  clear hA
  obtain ⟨RES, hRES⟩ : ∃ RES, Rp.on A (fun t b => Rp.repL s (s.size + 1 - b) t b) = RES := ⟨_, rfl⟩
  have HR := Lib.hid hRES
  rw [hRES]
  clear hRES
  go_enter Try.func155, Try.ntmps155
  go_wp2_with (fail)
  go_at_call 177
  refine HAT.out.mono ?_
  rintro ex w1 ⟨t, b, e, ao, c, fp, hout, hb, hf, rfl, hst⟩
  have hrel : ∃ gk, gk ≤ s.size + 1 ∧ Rp.RepRel w0 R s op μ w.heap.size w1.heap.size RES gk (w1.alloc (.cells (Rp.rxA t ao c) 27)) := by
    have hS := (hst.alloc (Rp.rxA t ao c) 27).pick [2, 0, 1, 3] 4 (ρ := Rp.rd R s b op e :: aCel w1.heap.size 27 (Rp.rxA t ao c) :: Rp.kidsA fp ao c t :: aCel w.heap.size 27 #[.int .i64 0, .int .u64 0, .int .u64 0, .int .u64 0, .int .u64 0, .slice none 0 0] :: μ) rfl rfl
    rcases hout with ⟨rfl, rfl⟩ | ⟨he, rfl⟩
    · refine ⟨s.size + 1 - b, by omega, t, b, 0, ao, c, fp, Lib.hid hf, hb, Lib.hid (.inl ⟨rfl, ?_, rfl, s.size + 1 - b, by omega, HR.out⟩), hS⟩
      have := HFIT.out.2.2
      unfold Rp.Big at this
      omega
    · exact ⟨0, by omega, t, b, e, ao, c, fp, Lib.hid hf, hb, Lib.hid (.inr ⟨he, HR.out.symm⟩), hS⟩
  obtain ⟨g0, hg0, hrel⟩ := hrel
  have HREL := Lib.hid hrel
  clear hrel hst hout hf HAT HFIT HR hb
  unfold Rp.rxA at HREL ⊢
  go_wp2_with (fail)
  go_loopg [] g0 (fun gk wr => Rp.RepRel w0 R s op μ w.heap.size w1.heap.size RES gk wr)
  case atStart => exact HREL.out
  case round =>
    clear HREL hg0
    obtain ⟨t, b, e, ao, c, fp, HF, hb, HOUT, hst⟩ := hrel
    unfold Rp.rxA at hst
    obtain ⟨c0, c1, c2, c3, f1, f2, f3⟩ := Rp.rdAt hst
    have HS := Lib.hid hst
    clear hst
    rcases HOUT.out with ⟨rfl, hsz, hgk, f, hf, hres⟩ | ⟨he, hres⟩
    · obtain ⟨f, rfl⟩ : ∃ f', f = f' + 1 := ⟨f - 1, by omega⟩
      have HGK := Lib.hid hgk
      have HSZ := Lib.hid hsz
      have HRES := Lib.hid hres
      clear hgk hsz hres HOUT
      by_cases k42 : Rp.pk s b = 42
      · have hlt := Rp.pk_lt 42 (by decide) k42
        have HNX := Lib.hid ((Rp.repL_star k42).symm.trans HRES.out)
        have HTK := Lib.hid (rpTake_any s b op 0 42 R w0 _ _ HS.out (by decide) hb hs)
        rw [Rp.isB_ok, decide_eq_true k42, Rp.tk_yes (by rw [Rp.isB_ok]; exact decide_eq_true k42)] at HTK
        go_wp2_with (fail)
        go_at_call 116
        refine HTK.out.mono ?_
        rintro ex w42 ⟨rfl, hst⟩
        have HS := Lib.hid hst
        clear hst HTK c0 c1 c2 c3 f1 f2 f3
        obtain ⟨c0, c1, c2, c3, f1, f2, f3⟩ := Rp.rdAt HS.out
        clear k42 c0 c1 c2 c3 f1 f2 f3
        obtain ⟨z0, z1, z2, z3, z4, z5⟩ := Rx.cel6 HS.out 1 rfl
        have hst := (HS.out.alloc (Rp.rxA t ao c) 27).pick [0, 3, 1, 2, 4] 5 (ρ := aCel w42.heap.size 27 (Rp.rxA t ao c) :: Rp.kidsA fp ao c t :: Rp.rd R s (b + 1 : Nat) op 0 :: aCel w1.heap.size 27 (Rp.rxA t ao c) :: aCel w.heap.size 27 #[.int .i64 0, .int .u64 0, .int .u64 0, .int .u64 0, .int .u64 0, .slice none 0 0] :: μ) rfl rfl
        have hst2 := Rp.set6 ((Rp.St.star hst HF.out).pick [2, 1, 0, 3] 4 (ρ := aCel w1.heap.size 27 #[.int .i64 t.kind, .int .u64 (Rp.cw t 0), .int .u64 (Rp.cw t 1), .int .u64 (Rp.cw t 2), .int .u64 (Rp.cw t 3), .slice ao t.kids.length c] :: Rp.rd R s (b + 1 : Nat) op 0 :: Rp.kidsA (w42.heap.size :: fp) (some ⟨w42.heap.size, 0, none⟩) 1 (Rp.star t) :: aCel w.heap.size 27 #[.int .i64 0, .int .u64 0, .int .u64 0, .int .u64 0, .int .u64 0, .slice none 0 0] :: μ) rfl rfl) (.int .i64 6) (.int .u64 0) (.int .u64 0) (.int .u64 0) (.int .u64 0) (.slice (some ⟨w42.heap.size, 0, none⟩) 1 1)
        have HS2 := Lib.hid hst2.get2
        obtain ⟨y0, y1, y2, y3, y4, y5⟩ := Rx.cel6 hst 3 rfl
        obtain ⟨v0, v1, v2, v3, v4, v5⟩ := Rp.free6 hst 3 rfl
        clear hst hst2 HS
        unfold Rp.rxA at HS2 y0 y1 y2 y3 y4 y5 v0 v1 v2 v3 v4 v5
        go_wp2
        go_roundg (s.size + 1 - (b + 1))
        case measure => have := HGK.out; omega
        case rel => exact ⟨Rp.star t, b + 1, 0, _, _, _, Lib.hid Rp.fine_star, hlt, Lib.hid (.inl ⟨rfl, by rw [Rp.siz_star]; have := HSZ.out; omega, rfl, f, by omega, HNX.out⟩), HS2.out⟩
      have HTK := Lib.hid (rpTake_any s b op 0 42 R w0 _ _ HS.out (by decide) hb hs)
      rw [Rp.isB_ok, decide_eq_false k42, Rp.tk_no (by rw [Rp.isB_ok]; exact decide_eq_false k42)] at HTK
      go_wp2_with (fail)
      go_at_call 116
      refine HTK.out.mono ?_
      rintro ex w42 ⟨rfl, hst⟩
      have HS := Lib.hid hst
      clear hst HTK c0 c1 c2 c3 f1 f2 f3
      obtain ⟨c0, c1, c2, c3, f1, f2, f3⟩ := Rp.rdAt HS.out
      by_cases k43 : Rp.pk s b = 43
      · have hlt := Rp.pk_lt 43 (by decide) k43
        have HNX := Lib.hid ((Rp.repL_plus k43).symm.trans HRES.out)
        have HTK := Lib.hid (rpTake_any s b op 0 43 R w0 _ _ HS.out (by decide) hb hs)
        rw [Rp.isB_ok, decide_eq_true k43, Rp.tk_yes (by rw [Rp.isB_ok]; exact decide_eq_true k43)] at HTK
        go_wp2_with (fail)
        go_at_call 116
        refine HTK.out.mono ?_
        rintro ex w43 ⟨rfl, hst⟩
        have HS := Lib.hid hst
        clear hst HTK c0 c1 c2 c3 f1 f2 f3
        obtain ⟨c0, c1, c2, c3, f1, f2, f3⟩ := Rp.rdAt HS.out
        clear k42 k43 c0 c1 c2 c3 f1 f2 f3
        have hne : ¬ w1.heap.size = w43.heap.size := by have := Rp.ltAt HS.out 1 rfl; omega
        have hst := ((Rp.St.leaf (k := 2) (c := Rp.ints Dm.zero) HS.out).alloc #[.int .i64 2, .int .u64 0, .int .u64 0, .int .u64 0, .int .u64 0, .slice none 0 0] 27).pick [2, 3, 4, 0, 1, 5] 6 (ρ := Rp.rd R s (b + 1 : Nat) op 0 :: aCel w1.heap.size 27 #[.int .i64 t.kind, .int .u64 (Rp.cw t 0), .int .u64 (Rp.cw t 1), .int .u64 (Rp.cw t 2), .int .u64 (Rp.cw t 3), .slice ao t.kids.length c] :: Rp.kidsA fp ao c t :: aCel w43.heap.size 27 #[.int .i64 2, .int .u64 0, .int .u64 0, .int .u64 0, .int .u64 0, .slice none 0 0] :: Rp.kidsA [] none 0 Rp.empty :: aCel w.heap.size 27 #[.int .i64 0, .int .u64 0, .int .u64 0, .int .u64 0, .int .u64 0, .slice none 0 0] :: μ) rfl rfl
        obtain ⟨n, hn⟩ := Rp.kidsEnc HF.out hst 2 rfl
        have hsz := HSZ.out
        have HSIZE := Lib.hid (rpSize_any _ _ n t _ _ hn (by omega) (Below.refl _ _))
        have HCOPY := Lib.hid (fun W hW => rpCopy_any _ _ n t _ W hn (by omega) hW)
        have HS := Lib.hid hst
        obtain ⟨z0, z1, z2, z3, z4, z5⟩ := Rx.cel6 HS.out 1 rfl
        unfold Rp.rxA at HSIZE HCOPY
        clear hst hn
        obtain ⟨SZ, hSZ⟩ : ∃ z, Rp.siz t = z := ⟨_, rfl⟩
        have HSZE := Lib.hid hSZ
        rw [hSZ] at HSIZE
        clear hSZ hsz
        by_cases h100 : SZ ≤ 100
        · have h100I : (SZ : Int) ≤ 100 := by omega
          go_wp2_with (fail)
          go_at_call 178
          refine HSIZE.out.mono ?_
          rintro ex w2 ⟨rfl, hb2⟩
          have HS2 := Lib.hid (HS.out.call hb2)
          have HB2 := Lib.hid hb2
          clear hb2 z0 z1 z2 z3 z4 z5
          obtain ⟨z0, z1, z2, z3, z4, z5⟩ := Rx.cel6 HS2.out 1 rfl
          go_wp2_with (fail)
          go_at_call 179
          refine (HCOPY.out _ HB2.out).mono ?_
          rintro ex w3 ⟨ao2, c2, fp2, rfl, hst3⟩
          have hst4 := (HS2.out.joined hst3).pick [4, 1, 2, 3, 0, 6] 7 (ρ := aCel w43.heap.size 27 #[.int .i64 2, .int .u64 0, .int .u64 0, .int .u64 0, .int .u64 0, .slice none 0 0] :: Rp.rd R s (b + 1 : Nat) op 0 :: aCel w1.heap.size 27 #[.int .i64 t.kind, .int .u64 (Rp.cw t 0), .int .u64 (Rp.cw t 1), .int .u64 (Rp.cw t 2), .int .u64 (Rp.cw t 3), .slice ao t.kids.length c] :: Rp.kidsA fp ao c t :: Rp.kidsA fp2 ao2 c2 t :: aCel w.heap.size 27 #[.int .i64 0, .int .u64 0, .int .u64 0, .int .u64 0, .int .u64 0, .slice none 0 0] :: μ) rfl rfl
          clear hst3 z0 z1 z2 z3 z4 z5 HS HS2
          obtain ⟨x0, x1, x2, x3, x4, x5⟩ := Rx.cel6 hst4 0 rfl
          obtain ⟨v0, v1, v2, v3, v4, v5⟩ := Rp.free6 hst4 0 rfl
          obtain ⟨z0, z1, z2, z3, z4, z5⟩ := Rx.cel6 hst4 2 rfl
          have hst5 := Rp.set6 hst4 (.int .i64 t.kind) (.int .u64 (Rp.cw t 0)) (.int .u64 (Rp.cw t 1)) (.int .u64 (Rp.cw t 2)) (.int .u64 (Rp.cw t 3)) (.slice ao2 t.kids.length c2)
          have HS5 := Lib.hid hst5
          have hst6 := hst5.alloc (Rp.rxA t ao2 c2) 27
          simp only [World.size_setCell] at hst6
          have HS6 := Lib.hid hst6
          clear hst4 hst5 hst6
          go_wp2_with (fail)
          have hst6 := Rp.St.star (HS6.out.pick [0, 5, 4, 2, 3, 6] 7 (ρ := aCel _ 27 (Rp.rxA t ao2 c2) :: Rp.kidsA fp2 ao2 c2 t :: Rp.kidsA fp ao c t :: Rp.rd R s (b + 1 : Nat) op 0 :: aCel w1.heap.size 27 #[.int .i64 t.kind, .int .u64 (Rp.cw t 0), .int .u64 (Rp.cw t 1), .int .u64 (Rp.cw t 2), .int .u64 (Rp.cw t 3), .slice ao t.kids.length c] :: aCel w.heap.size 27 #[.int .i64 0, .int .u64 0, .int .u64 0, .int .u64 0, .int .u64 0, .slice none 0 0] :: μ) rfl rfl) HF.out
          have hst7 := hst6.get2
          have HTW := Lib.hid (rpTwo_any 4 (by decide) (by decide) t (Rp.star t) ao (some ⟨w3.heap.size, 0, none⟩) c 1 fp _ HF.out Rp.fine_star w0 _ _ hst7)
          clear hst6 hst7 HS6
          unfold Rp.rxA at HTW
          go_wp2_with (fail)
          go_at_call 117
          refine HTW.out.mono ?_
          rintro ex w4 ⟨g4, fr, rfl, hst4⟩
          clear z0 z1 z2 z3 z4 z5 x0 x1 x2 x3 x4 x5
          obtain ⟨y0, y1, y2, y3, y4, y5⟩ := Rx.cel6 hst4 2 rfl
          obtain ⟨u0, u1, u2, u3, u4, u5⟩ := Rp.free6 hst4 2 rfl
          have HS9 := Lib.hid ((Rp.set6 (hst4.pick [2, 1, 0, 3] 4 (ρ := aCel w1.heap.size 27 #[.int .i64 t.kind, .int .u64 (Rp.cw t 0), .int .u64 (Rp.cw t 1), .int .u64 (Rp.cw t 2), .int .u64 (Rp.cw t 3), .slice ao t.kids.length c] :: Rp.rd R s (b + 1 : Nat) op 0 :: Rp.kidsA fr (some ⟨g4, 0, none⟩) 2 (Rp.two 4 t (Rp.star t)) :: aCel w.heap.size 27 #[.int .i64 0, .int .u64 0, .int .u64 0, .int .u64 0, .int .u64 0, .slice none 0 0] :: μ) rfl rfl) (.int .i64 4) (.int .u64 0) (.int .u64 0) (.int .u64 0) (.int .u64 0) (.slice (some ⟨g4, 0, none⟩) 2 2)).get2)
          clear hst4
          show _
          go_wp2
          go_roundg (s.size + 1 - (b + 1))
          case measure => have := HGK.out; omega
          case rel =>
            have hpl := Rp.plus_small (t := t) (by rw [HSZE.out]; exact h100)
            have hnx := HNX.out
            have h1 := Rp.siz_plus t
            rw [hpl] at hnx h1
            exact ⟨Rp.two 4 t (Rp.star t), b + 1, 0, _, _, _, Lib.hid (Rp.fine_two (by decide) (by decide)), hlt, Lib.hid (.inl ⟨rfl, by have := HSZ.out; omega, rfl, f, by omega, hnx⟩), HS9.out⟩
        · have h100I : ¬ (SZ : Int) ≤ 100 := by omega
          go_wp2_with (fail)
          go_at_call 178
          refine HSIZE.out.mono ?_
          rintro ex w2 ⟨rfl, hb2⟩
          have HS2 := Lib.hid (HS.out.call hb2)
          clear hb2 z0 z1 z2 z3 z4 z5
          obtain ⟨z0, z1, z2, z3, z4, z5⟩ := Rx.cel6 HS2.out 1 rfl
          obtain ⟨x0, x1, x2, x3, x4, x5⟩ := Rx.cel6 HS2.out 3 rfl
          have HS6 := Lib.hid (HS2.out.alloc (Rp.rxA Rp.empty none 0) 27)
          clear HS HS2
          go_wp2_with (fail)
          have hst6 := Rp.St.star (HS6.out.pick [0, 5, 3, 1, 2, 6] 7 (ρ := aCel _ 27 (Rp.rxA Rp.empty none 0) :: Rp.kidsA [] none 0 Rp.empty :: Rp.kidsA fp ao c t :: Rp.rd R s (b + 1 : Nat) op 0 :: aCel w1.heap.size 27 #[.int .i64 t.kind, .int .u64 (Rp.cw t 0), .int .u64 (Rp.cw t 1), .int .u64 (Rp.cw t 2), .int .u64 (Rp.cw t 3), .slice ao t.kids.length c] :: aCel w.heap.size 27 #[.int .i64 0, .int .u64 0, .int .u64 0, .int .u64 0, .int .u64 0, .slice none 0 0] :: μ) rfl rfl) Rp.fine_empty
          have hst7 := hst6.get2
          have HTW := Lib.hid (rpTwo_any 4 (by decide) (by decide) t (Rp.star Rp.empty) ao (some ⟨w2.heap.size, 0, none⟩) c 1 fp _ HF.out Rp.fine_star w0 _ _ hst7)
          clear hst6 hst7 HS6
          unfold Rp.rxA at HTW
          go_wp2_with (fail)
          go_at_call 117
          refine HTW.out.mono ?_
          rintro ex w4 ⟨g4, fr, rfl, hst4⟩
          clear z0 z1 z2 z3 z4 z5 x0 x1 x2 x3 x4 x5
          obtain ⟨y0, y1, y2, y3, y4, y5⟩ := Rx.cel6 hst4 2 rfl
          obtain ⟨u0, u1, u2, u3, u4, u5⟩ := Rp.free6 hst4 2 rfl
          have HS9 := Lib.hid ((Rp.set6 (hst4.pick [2, 1, 0, 3] 4 (ρ := aCel w1.heap.size 27 #[.int .i64 t.kind, .int .u64 (Rp.cw t 0), .int .u64 (Rp.cw t 1), .int .u64 (Rp.cw t 2), .int .u64 (Rp.cw t 3), .slice ao t.kids.length c] :: Rp.rd R s (b + 1 : Nat) op 0 :: Rp.kidsA fr (some ⟨g4, 0, none⟩) 2 (Rp.two 4 t (Rp.star Rp.empty)) :: aCel w.heap.size 27 #[.int .i64 0, .int .u64 0, .int .u64 0, .int .u64 0, .int .u64 0, .slice none 0 0] :: μ) rfl rfl) (.int .i64 4) (.int .u64 0) (.int .u64 0) (.int .u64 0) (.int .u64 0) (.slice (some ⟨g4, 0, none⟩) 2 2)).get2)
          clear hst4
          show _
          go_wp2
          go_roundg (s.size + 1 - (b + 1))
          case measure => have := HGK.out; omega
          case rel =>
            have hpl := Rp.plus_big (t := t) (by rw [HSZE.out]; exact h100)
            have hnx := HNX.out
            have h1 := Rp.siz_plus t
            rw [hpl] at hnx h1
            exact ⟨Rp.two 4 t (Rp.star Rp.empty), b + 1, 0, _, _, _, Lib.hid (Rp.fine_two (by decide) (by decide)), hlt, Lib.hid (.inl ⟨rfl, by have := HSZ.out; omega, rfl, f, by omega, hnx⟩), HS9.out⟩
      have HTK := Lib.hid (rpTake_any s b op 0 43 R w0 _ _ HS.out (by decide) hb hs)
      rw [Rp.isB_ok, decide_eq_false k43, Rp.tk_no (by rw [Rp.isB_ok]; exact decide_eq_false k43)] at HTK
      go_wp2_with (fail)
      go_at_call 116
      refine HTK.out.mono ?_
      rintro ex w43 ⟨rfl, hst⟩
      have HS := Lib.hid hst
      clear hst HTK c0 c1 c2 c3 f1 f2 f3
      obtain ⟨c0, c1, c2, c3, f1, f2, f3⟩ := Rp.rdAt HS.out
      by_cases k63 : Rp.pk s b = 63
      · have hlt := Rp.pk_lt 63 (by decide) k63
        have HNX := Lib.hid ((Rp.repL_quest k63).symm.trans HRES.out)
        have HTK := Lib.hid (rpTake_any s b op 0 63 R w0 _ _ HS.out (by decide) hb hs)
        rw [Rp.isB_ok, decide_eq_true k63, Rp.tk_yes (by rw [Rp.isB_ok]; exact decide_eq_true k63)] at HTK
        go_wp2_with (fail)
        go_at_call 116
        refine HTK.out.mono ?_
        rintro ex w63 ⟨rfl, hst⟩
        have HS := Lib.hid hst
        clear hst HTK c0 c1 c2 c3 f1 f2 f3
        obtain ⟨c0, c1, c2, c3, f1, f2, f3⟩ := Rp.rdAt HS.out
        clear k42 k43 k63 c0 c1 c2 c3 f1 f2 f3
        obtain ⟨z0, z1, z2, z3, z4, z5⟩ := Rx.cel6 HS.out 1 rfl
        have hst := (Rp.St.leaf (k := 2) (c := Rp.ints Dm.zero) HS.out).pick [3, 0, 1, 2, 4] 5 (ρ := Rp.kidsA fp ao c t :: Rp.kidsA [] none 0 Rp.empty :: Rp.rd R s (b + 1 : Nat) op 0 :: aCel w1.heap.size 27 #[.int .i64 t.kind, .int .u64 (Rp.cw t 0), .int .u64 (Rp.cw t 1), .int .u64 (Rp.cw t 2), .int .u64 (Rp.cw t 3), .slice ao t.kids.length c] :: aCel w.heap.size 27 #[.int .i64 0, .int .u64 0, .int .u64 0, .int .u64 0, .int .u64 0, .slice none 0 0] :: μ) rfl rfl
        have HTW := Lib.hid (rpTwo_any 5 (by decide) (by decide) t Rp.empty ao none c 0 fp [] HF.out Rp.fine_empty w0 _ _ hst)
        clear hst HS
        unfold Rp.rxA at HTW
        go_wp2_with (fail)
        go_at_call 117
        refine HTW.out.mono ?_
        rintro ex w4 ⟨g4, fr, rfl, hst4⟩
        obtain ⟨y0, y1, y2, y3, y4, y5⟩ := Rx.cel6 hst4 2 rfl
        obtain ⟨v0, v1, v2, v3, v4, v5⟩ := Rp.free6 hst4 2 rfl
        have HS9 := Lib.hid ((Rp.set6 (hst4.pick [2, 1, 0, 3] 4 (ρ := aCel w1.heap.size 27 #[.int .i64 t.kind, .int .u64 (Rp.cw t 0), .int .u64 (Rp.cw t 1), .int .u64 (Rp.cw t 2), .int .u64 (Rp.cw t 3), .slice ao t.kids.length c] :: Rp.rd R s (b + 1 : Nat) op 0 :: Rp.kidsA fr (some ⟨g4, 0, none⟩) 2 (Rp.two 5 t Rp.empty) :: aCel w.heap.size 27 #[.int .i64 0, .int .u64 0, .int .u64 0, .int .u64 0, .int .u64 0, .slice none 0 0] :: μ) rfl rfl) (.int .i64 5) (.int .u64 0) (.int .u64 0) (.int .u64 0) (.int .u64 0) (.slice (some ⟨g4, 0, none⟩) 2 2)).get2)
        clear hst4 z0 z1 z2 z3 z4 z5
        show _
        go_wp2
        go_roundg (s.size + 1 - (b + 1))
        case measure => have := HGK.out; omega
        case rel => exact ⟨Rp.two 5 t Rp.empty, b + 1, 0, _, _, _, Lib.hid (Rp.fine_two (by decide) (by decide)), hlt, Lib.hid (.inl ⟨rfl, by have h1 := Rp.siz_quest t; unfold Rp.quest at h1; rw [h1]; have := HSZ.out; omega, rfl, f, by omega, HNX.out⟩), HS9.out⟩
      have HTK := Lib.hid (rpTake_any s b op 0 63 R w0 _ _ HS.out (by decide) hb hs)
      rw [Rp.isB_ok, decide_eq_false k63, Rp.tk_no (by rw [Rp.isB_ok]; exact decide_eq_false k63)] at HTK
      go_wp2_with (fail)
      go_at_call 116
      refine HTK.out.mono ?_
      rintro ex w63 ⟨rfl, hst⟩
      have HS := Lib.hid hst
      clear hst HTK c0 c1 c2 c3 f1 f2 f3
      obtain ⟨c0, c1, c2, c3, f1, f2, f3⟩ := Rp.rdAt HS.out
      have HOUTC := Lib.hid (Rp.outc_ok ((HRES.out.symm).trans (Rp.repL_end k42 k43 k63)))
      clear k42 k43 k63 c0 c1 c2 c3 f1 f2 f3
      obtain ⟨z0, z1, z2, z3, z4, z5⟩ := Rx.cel6 HS.out 1 rfl
      obtain ⟨x0, x1, x2, x3, x4, x5⟩ := Rx.cel6 HS.out 3 rfl
      obtain ⟨v0, v1, v2, v3, v4, v5⟩ := Rp.free6 HS.out 3 rfl
      have HS9 := Lib.hid (Rp.set6 (HS.out.pick [3, 2, 0] 4 rfl rfl) (.int .i64 t.kind) (.int .u64 (Rp.cw t 0)) (.int .u64 (Rp.cw t 1)) (.int .u64 (Rp.cw t 2)) (.int .u64 (Rp.cw t 3)) (.slice ao t.kids.length c))
      clear HS
      go_wp2
      refine bodyPost_ret (results_row rfl _ _ w.heap.size 27 _ _ rfl (HS9.out.heapAt 0 rfl) Try.underlying27 rfl (by kernel_rfl)) rfl ?_
      exact ⟨t, b, 0, ao, c, fp, HOUTC.out, hb, HF.out, rfl, HS9.out.drop⟩
    · have he2 := Rp.six_or he
      have HOUTC := Lib.hid (Rp.outc_bad (t := t) he hres)
      obtain ⟨he0, -⟩ := he2
      clear he hres HOUT
      obtain ⟨z0, z1, z2, z3, z4, z5⟩ := Rx.cel6 HS.out 1 rfl
      obtain ⟨x0, x1, x2, x3, x4, x5⟩ := Rx.cel6 HS.out 3 rfl
      obtain ⟨v0, v1, v2, v3, v4, v5⟩ := Rp.free6 HS.out 3 rfl
      have HS9 := Lib.hid (Rp.set6 (HS.out.pick [3, 2, 0] 4 rfl rfl) (.int .i64 t.kind) (.int .u64 (Rp.cw t 0)) (.int .u64 (Rp.cw t 1)) (.int .u64 (Rp.cw t 2)) (.int .u64 (Rp.cw t 3)) (.slice ao t.kids.length c))
      clear HS
      go_wp2
      refine bodyPost_ret (results_row rfl _ _ w.heap.size 27 _ _ rfl (HS9.out.heapAt 0 rfl) Try.underlying27 rfl (by kernel_rfl)) rfl ?_
      exact ⟨t, b, e, ao, c, fp, HOUTC.out, hb, HF.out, rfl, HS9.out.drop⟩
end Go.Proofs.Ytfelikfppjlcmaa

/-
  The reference's reader of regular expressions: weight, pair, rep.
-/
namespace Go.Proofs.Ytfelikfppjlcmaa
set_option linter.unusedVariables false
set_option linter.unusedSimpArgs false
open Go.ChangeShapes Go.WideShapes Go.ChangeAt Go.RowKit

set_option maxRecDepth 100000 in
set_option maxHeartbeats 4000000 in
theorem rrWeight_any (w0 : World) (F : Nat → Prop) :
    ∀ (h : Nat) (t : Rx) (cs : Array Value) (n : Nat) (w : World), (Rx.enc h).R F w0 cs.toList t → n ≤ 101 → Below w0.heap.size w0 w →
      Calls Try.prog 182 #[.agg cs, .int .i64 n] w fun e w' => e = .returned (.int .i64 (min (n + Rp.siz t) 102 : Nat)) ∧ Below w.heap.size w w' := by
  intro h
  induction h with
  | zero => intro t cs n w h; exact h.elim
  | succ h ih =>
    intro t cs n w ht hn hbw
    obtain ⟨m, hm, ao, c, hcs, -, hk⟩ := Rp.enc_open ht
    obtain rfl : h = m := by omega
    obtain rfl := Rp.eq_rxA hcs
    obtain ⟨ak, bk, ok, ck, hv, hkl, k3, k4⟩ := Rp.kidsR hk
    simp only [Value.slice.injEq, true_and] at hv
    obtain ⟨rfl, rfl⟩ := hv
    rw [Rp.siz_kids]
    have HST := Lib.hid ((St.init w).alloc (Rp.rxA t ao c) 27)
    have K3 := Lib.hid k3; have K4 := Lib.hid k4; have IH := Lib.hid ih; have HBW := Lib.hid hbw
    have c5 := HST.out.celAt (i := 5) rfl
    obtain ⟨RS, hRS⟩ : ∃ RS : Nat, min (n + (Rp.sizs t.kids + 1)) 102 = RS := ⟨_, rfl⟩
    rw [hRS]
    have HRS := Lib.hid hRS
    have hnw : IntKind.i64.wrap ((n : Int) + 1) = ((n + 1 : Nat) : Int) := by rw [IntWalk.i64_in _ (by omega)]; omega
    unfold Rp.rxA at HST c5 ⊢
    clear ht hm hcs hk k3 k4 ih hbw hRS
    generalize t.kind = kd at *
    generalize Rp.cw t 0 = q0 at *
    generalize Rp.cw t 1 = q1 at *
    generalize Rp.cw t 2 = q2 at *
    generalize Rp.cw t 3 = q3 at *
    generalize t.kids = ks at *
    go_enter Try.func182, Try.ntmps182
    go_wp2
    go_loopg [1, 5] ks.length (fun gk v1 v5 wr => ∃ i z : Nat, v5 = .int .i64 i ∧ v1 = .int .i64 z ∧ i ≤ ks.length ∧ z ≤ 102 ∧ gk = ks.length - i ∧ Hid (min (z + Rp.sizs (ks.drop i)) 102 = RS) ∧ St w wr (aCel w.heap.size 27 #[.int .i64 kd, .int .u64 q0, .int .u64 q1, .int .u64 q2, .int .u64 q3, .slice ao ks.length c] :: []))
    case atStart => exact ⟨0, n + 1, rfl, rfl, Nat.zero_le _, by omega, rfl, Lib.hid (by rw [List.drop_zero, ← HRS.out]; omega), HST.out⟩
    case round =>
      clear HST
      obtain ⟨i, z, rfl, rfl, hi, hz102, hgk, HZ, hst⟩ := hrel
      have HGK := Lib.hid hgk
      have HS := Lib.hid hst
      have c5 := hst.celAt (i := 5) rfl
      clear hst hgk
      by_cases hlt : i < ks.length
      · have hltI : (i : Int) < (ks.length : Int) := by omega
        by_cases hz : z ≤ 101
        · have hzI : (z : Int) ≤ 101 := by omega
          obtain ⟨rfl, -, -⟩ := K3.out (by omega)
          obtain ⟨a', c', ⟨d0, d1, d2, d3, d4, d5⟩, hki⟩ := K4.out i hlt
          have hbel := HBW.out.trans (HS.out.bel.mono HBW.out.size)
          have HBEL := Lib.hid hbel
          have HSD := Lib.hid HS.out.drew
          have hzz := HZ.out
          rw [Rp.sizs_drop ks i hlt] at hzz
          have HC := Lib.hid (fun W hW => IH.out (ks.getD i Rx.nil) _ z W hki hz hW)
          have d0 := bkeep hbel d0
          have d1 := bkeep hbel d1
          have d2 := bkeep hbel d2
          have d3 := bkeep hbel d3
          have d4 := bkeep hbel d4
          have d5 := bkeep hbel d5
          have HZ2 := Lib.hid hzz
          have hiw : IntKind.i64.wrap ((i : Int) + 1) = (i : Int) + 1 := IntWalk.i64_in _ (by omega)
          have h0i : (0 : Int) ≤ (i : Int) := by omega
          unfold Rp.rxA at HC
          clear hzz hki hbel
          generalize (ks.getD i Rx.nil).kind = kd1 at *
          generalize Rp.cw (ks.getD i Rx.nil) 0 = p0 at *
          generalize Rp.cw (ks.getD i Rx.nil) 1 = p1 at *
          generalize Rp.cw (ks.getD i Rx.nil) 2 = p2 at *
          generalize Rp.cw (ks.getD i Rx.nil) 3 = p3 at *
          generalize (ks.getD i Rx.nil).kids.length = nk1 at *
          generalize Rp.siz (ks.getD i Rx.nil) = sz1 at *
          obtain ⟨zm, hzm⟩ : ∃ zm : Nat, min (z + sz1) 102 = zm := ⟨_, rfl⟩
          have HZM := Lib.hid hzm
          rw [hzm] at HC
          clear hzm
          go_wp2_with (fail)
          go_at_call 182
          refine (HC.out _ HBEL.out).mono ?_
          rintro ex w2 ⟨rfl, hb2⟩
          have HS3 := Lib.hid (HS.out.call hb2)
          clear hb2
          go_wp2
          go_roundg (ks.length - (i + 1))
          case rel => exact ⟨i + 1, zm, by go_num, rfl, by omega, by have := HZM.out; omega, rfl, Lib.hid (by have := HZ2.out; have := HZM.out; omega), HS3.out⟩
          case measure => have := HGK.out; omega
        · have hzI : ¬ (z : Int) ≤ 101 := by omega
          obtain rfl : RS = z := by have := HZ.out; omega
          go_wp2
          go_ret
          exact ⟨rfl, HS.out.bel⟩
      · have hz := HZ.out
        rw [Rp.sizs_end ks i hlt] at hz
        obtain rfl : RS = z := by omega
        have hltI : ¬ (i : Int) < (ks.length : Int) := by omega
        go_wp2
        go_ret
        exact ⟨rfl, HS.out.bel⟩

namespace Rp
/-- The kids of two trees, in the blocks fs. -/
def aBoth (fs : List Nat) (ao : Option Addr) (c : Nat) (a : Rx) (bo : Option Addr) (d : Nat) (b : Rx) : Asrt where
  fp := fs
  ok := fun w => (Rx.any.sl 64).R (fun x => x ∈ fs) w [.slice ao a.kids.length c] a.kids ∧ (Rx.any.sl 64).R (fun x => x ∈ fs) w [.slice bo b.kids.length d] b.kids
  loc := fun w w' h hw => ⟨Enc.mono (Rx.any.sl 64) hw.1 (fun _ h => h) h, Enc.mono (Rx.any.sl 64) hw.2 (fun _ h => h) h⟩
theorem St.both {w0 w : World} {μ : List Asrt} {a b : Rx} {ao bo : Option Addr} {c d : Nat} {fp fq : List Nat} (h : St w0 w (kidsA fp ao c a :: kidsA fq bo d b :: μ)) : St w0 w (aBoth (fp ++ fq) ao c a bo d b :: μ) :=
  h.merge rfl (fun h1 h2 => ⟨Enc.mono (Rx.any.sl 64) h1 (fun x hx => List.mem_append.2 (.inl hx)) (fun _ _ => rfl), Enc.mono (Rx.any.sl 64) h2 (fun x hx => List.mem_append.2 (.inr hx)) (fun _ _ => rfl)⟩)
theorem St.share {w0 w : World} {μ : List Asrt} {g : Nat} {T : TypeId} {a : Rx} {ao : Option Addr} {c : Nat} {fp : List Nat} (h : St w0 w (aCel g T (rxA a ao c) :: kidsA fp ao c a :: μ)) (hf : Fine a) : St w0 w (aBoth (g :: fp) ao c a (some ⟨g, 0, none⟩) 1 (Rp.star a) :: μ) :=
  h.merge rfl (fun h1 h2 => ⟨Enc.mono (Rx.any.sl 64) h2 (fun x hx => List.mem_cons_of_mem _ hx) (fun _ _ => rfl), kids1 h1 (.head _) hf (Enc.mono (Rx.any.sl 64) h2 (fun b hb => List.mem_cons_of_mem _ hb) (fun _ _ => rfl))⟩)
theorem St.twoB {w0 w : World} {μ : List Asrt} {g : Nat} {T : TypeId} {a b : Rx} {ao bo : Option Addr} {c d : Nat} {fs : List Nat} {k : Int} (h : St w0 w (aCel g T (rxA a ao c ++ rxA b bo d) :: aBoth fs ao c a bo d b :: μ)) (hf : Fine a) (hf2 : Fine b) :
    St w0 w (kidsA (g :: fs) (some ⟨g, 0, none⟩) 2 (Rp.two k a b) :: μ) :=
  h.merge rfl (fun h1 h2 => kids2 h1 (.head _) hf hf2 (Enc.mono (Rx.any.sl 64) h2.1 (fun b hb => List.mem_cons_of_mem _ hb) (fun _ _ => rfl)) (Enc.mono (Rx.any.sl 64) h2.2 (fun b hb => List.mem_cons_of_mem _ hb) (fun _ _ => rfl)))
def RRel (w0 : World) (T : Nat) (s : ByteArray) (op : Int) (μ : List Asrt) (L : Nat → Rx → Nat → Re Rx) (B O : Nat) (RES : Re Rx) (gk : Nat) (v5 : Value) (wr : World) : Prop :=
  ∃ (t : Rx) (ao : Option Addr) (c : Nat) (fp : List Nat), Hid (Fine t) ∧
    ((∃ b f, v5 = .pointer none ∧ b ≤ s.size ∧ gk = s.size + 1 - b ∧ s.size < b + f ∧ Hid (L f t b = RES) ∧ St w0 wr (rt T s b op :: aCel O 27 (rxA t ao c) :: kidsA fp ao c t :: aCel B 27 #[.int .i64 0, .int .u64 0, .int .u64 0, .int .u64 0, .int .u64 0, .slice none 0 0] :: μ)) ∨
     (∃ e p g a', v5 = .pointer (some ⟨g, 0, none⟩) ∧ gk = 0 ∧ Hid (RES = .error (e, p) ∧ (e = 6 ∨ e = 7)) ∧ St w0 wr (rt T s a' op :: aCel O 27 (rxA t ao c) :: kidsA fp ao c t :: sp g e p :: aCel B 27 #[.int .i64 0, .int .u64 0, .int .u64 0, .int .u64 0, .int .u64 0, .slice none 0 0] :: μ)))
end Rp

set_option maxRecDepth 100000 in
theorem rPairB_any (k : Int) (hk0 : 0 ≤ k) (hk1 : k ≤ 10) (a b : Rx) (ao bo : Option Addr) (c d : Nat) (fs : List Nat) (hfa : Rp.Fine a) (hfb : Rp.Fine b) (w0 w : World) (μ : List Asrt) (h : St w0 w (Rp.aBoth fs ao c a bo d b :: μ)) :
    Calls Try.prog 121 #[.int .i64 k, .agg (Rp.rxA a ao c), .agg (Rp.rxA b bo d)] w fun ex w' => ∃ g fr, ex = .returned (.agg (Rp.rxA (Rp.two k a b) (some ⟨g, 0, none⟩) 2)) ∧ St w0 w' (Rp.kidsA fr (some ⟨g, 0, none⟩) 2 (Rp.two k a b) :: μ) := by
  have hst := (((h.alloc (Rp.rxA a ao c) 27).alloc (Rp.rxA b bo d) 27).alloc (Rp.rxA (Rp.two k a b) (some ⟨w.heap.size + 1 + 1 + 1, 0, none⟩) 2) 27).alloc (Rp.rxA a ao c ++ Rp.rxA b bo d) 27
  simp only [World.size_alloc] at hst
  have HST := Lib.hid hst
  clear h hst
  unfold Rp.rxA
  go_enter Try.func121, Try.ntmps121
  go_wp2
  refine bodyPost_ret (results_row rfl _ _ (w.heap.size + 1 + 1) 27 _ _ rfl (HST.out.heapAt 1 rfl) Try.underlying27 rfl (by kernel_rfl)) rfl ?_
  exact ⟨w.heap.size + 1 + 1 + 1, _, rfl, Rp.St.twoB (HST.out.pick (ρ := aCel (w.heap.size + 1 + 1 + 1) 27 (Rp.rxA a ao c ++ Rp.rxA b bo d) :: Rp.aBoth fs ao c a bo d b :: μ) [0, 4] 5 rfl rfl) hfa hfb⟩


set_option maxRecDepth 100000 in
set_option maxHeartbeats 16000000 in
theorem rrRep_any (s : ByteArray) (op : Int) (r : Nat → Rp.Re Rx) (hs : s.size ≤ 300) (hfit : Rp.Fits s r) (hr : Rp.TR 181 s r op) : Rp.TR 159 s (Rp.rep s r) op := by
  intro a T w0 w μ ha h
  have hst := (h.alloc #[.int .i64 0, .int .u64 0, .int .u64 0, .int .u64 0, .int .u64 0, .slice none 0 0] 27).get2
  have HAT := Lib.hid (hr a T w0 _ _ ha hst)
  have HSUB := Lib.hid hr
  clear h hst hr
  unfold Rp.rep
  obtain ⟨A, hA⟩ : ∃ A, r a = A := ⟨_, rfl⟩
  rw [hA] at HAT ⊢
  clear hA
  obtain ⟨RES, hRES⟩ : ∃ RES, Rp.on A (fun t b => Rp.repL s (s.size + 1 - b) t b) = RES := ⟨_, rfl⟩
  have HR := Lib.hid hRES
  rw [hRES]
  clear hRES
  go_enter Try.func159, Try.ntmps159
  go_wp2_with (fail)
  go_at_call 181
  refine HAT.out.mono ?_
  rintro ex w1 ⟨t, ao, c, fp, hf, hout⟩
  have hrel : ∃ gk v5, gk ≤ s.size + 1 ∧ ex = .returned (.tuple #[.agg (Rp.rxA t ao c), v5]) ∧ Rp.RRel w0 T s op μ (Rp.repL s) w.heap.size w1.heap.size RES gk v5 (w1.alloc (.cells (Rp.rxA t ao c) 27)) := by
    rcases hout with ⟨b, rfl, hb, rfl, hst⟩ | ⟨e, p, g, a', rfl, he, rfl, hst⟩
    · exact ⟨s.size + 1 - b, _, by omega, rfl, t, ao, c, fp, Lib.hid hf, .inl ⟨b, s.size + 1 - b, rfl, hb, rfl, by omega, HR, (hst.alloc (Rp.rxA t ao c) 27).pick [2, 0, 1, 3] 4 rfl rfl⟩⟩
    · exact ⟨0, _, by omega, rfl, t, ao, c, fp, Lib.hid hf, .inr ⟨e, p, g, a', rfl, rfl, Lib.hid ⟨HR.out.symm, he⟩, (hst.alloc (Rp.rxA t ao c) 27).pick [3, 0, 1, 2, 4] 5 rfl rfl⟩⟩
  obtain ⟨g0, v5, hg0, rfl, hrel⟩ := hrel
  have HREL := Lib.hid hrel
  clear hrel hout hf HAT HR
  unfold Rp.rxA at HREL ⊢
  go_wp2_with (fail)
  go_loopg [] g0 (fun gk wr => Rp.RRel w0 T s op μ (Rp.repL s) w.heap.size w1.heap.size RES gk v5 wr)
  case atStart => exact HREL.out
  case round =>
    clear HREL hg0
    obtain ⟨t, ao, c, fp, HF, hrel⟩ := hrel
    rcases hrel with ⟨b, f, rfl, hb, hgk, hf, HRES, hst⟩ | ⟨e, p, g, a', rfl, hgk, HERR, hst⟩
    · obtain ⟨f, rfl⟩ : ∃ f', f = f' + 1 := ⟨f - 1, by omega⟩
      have HGK := Lib.hid hgk
      unfold Rp.rxA at hst
      have HPK := Lib.hid (rPeek_any s b op T w0 _ _ hst hs)
      have hbw : IntKind.i64.wrap ((b : Int) + 1) = (b : Int) + 1 := IntWalk.i64_in _ (by omega)
      have hneO : ¬ w1.heap.size = T := by
        intro e
        have hs9 := hst.sep
        simp [Rp.rt, aCel, e] at hs9
      have hneO2 : ¬ T = w1.heap.size := fun e => hneO e.symm
      have HS := Lib.hid hst
      clear hst hgk
      by_cases k42 : Rp.pk s b = 42
      · have hlt := Rp.pk_lt 42 (by decide) k42
        have HNX := Lib.hid ((Rp.repL_star k42).symm.trans HRES.out)
        rw [k42] at HPK
        go_wp2_with (fail)
        go_at_call 120
        refine HPK.out.mono ?_
        clear HPK HS
        rintro ex w2 ⟨rfl, hst⟩
        have HS := Lib.hid hst
        clear hst
        obtain ⟨c0, c1, c2, f1, f2⟩ := Rp.rtAt HS.out
        obtain ⟨z0, z1, z2, z3, z4, z5⟩ := Rx.cel6 HS.out 1 rfl
        have hA1 := HS.out.alloc (Rp.rxA t ao c) 27
        have hst2 := (Rp.St.star (hA1.pick [0, 3, 1, 2, 4] 5 (ρ := aCel w2.heap.size 27 (Rp.rxA t ao c) :: Rp.kidsA fp ao c t :: Rp.rt T s b op :: aCel w1.heap.size 27 #[.int .i64 t.kind, .int .u64 (Rp.cw t 0), .int .u64 (Rp.cw t 1), .int .u64 (Rp.cw t 2), .int .u64 (Rp.cw t 3), .slice ao t.kids.length c] :: aCel w.heap.size 27 #[.int .i64 0, .int .u64 0, .int .u64 0, .int .u64 0, .int .u64 0, .slice none 0 0] :: μ) rfl rfl) HF.out)
        have HS7 := Lib.hid (Rp.set6 (hst2.pick [2, 1, 0, 3] 4 (ρ := aCel w1.heap.size 27 #[.int .i64 t.kind, .int .u64 (Rp.cw t 0), .int .u64 (Rp.cw t 1), .int .u64 (Rp.cw t 2), .int .u64 (Rp.cw t 3), .slice ao t.kids.length c] :: Rp.rt T s b op :: Rp.kidsA (w2.heap.size :: fp) (some ⟨w2.heap.size, 0, none⟩) 1 (Rp.star t) :: aCel w.heap.size 27 #[.int .i64 0, .int .u64 0, .int .u64 0, .int .u64 0, .int .u64 0, .slice none 0 0] :: μ) rfl rfl) (.int .i64 6) (.int .u64 0) (.int .u64 0) (.int .u64 0) (.int .u64 0) (.slice (some ⟨w2.heap.size, 0, none⟩) 1 1))
        obtain ⟨y0, y1, y2, y3, y4, y5⟩ := Rx.cel6 hA1 2 rfl
        obtain ⟨u0, u1, u2, u3, u4, u5⟩ := Rp.free6 hA1 2 rfl
        obtain ⟨d0, d1, d2, g1, g2⟩ := Rp.rtAt (hA1.pick [1] 5 (ρ := Rp.rt T s b op :: μ) rfl rfl)
        clear hst2 hA1 HS
        unfold Rp.rxA at HS7 y0 y1 y2 y3 y4 y5 u0 u1 u2 u3 u4 u5 d0 d1 d2 g1 g2
        have HS8 := Lib.hid (Rp.rtSetA (HS7.out.get2) ((b : Int) + 1))
        clear HS7
        go_wp2
        go_roundg (s.size + 1 - (b + 1))
        case measure => have := HGK.out; omega
        case rel => exact ⟨Rp.star t, _, _, _, Lib.hid Rp.fine_star, .inl ⟨b + 1, f, rfl, hlt, rfl, by omega, HNX, by rw [Rp.nc]; exact HS8.out⟩⟩
      by_cases k63 : Rp.pk s b = 63
      · have hlt := Rp.pk_lt 63 (by decide) k63
        have HNX := Lib.hid ((Rp.repL_quest k63).symm.trans HRES.out)
        rw [k63] at HPK
        go_wp2_with (fail)
        go_at_call 120
        refine HPK.out.mono ?_
        clear HPK HS
        rintro ex w2 ⟨rfl, hst⟩
        have HS := Lib.hid hst
        clear hst
        obtain ⟨c0, c1, c2, f1, f2⟩ := Rp.rtAt HS.out
        obtain ⟨z0, z1, z2, z3, z4, z5⟩ := Rx.cel6 HS.out 1 rfl
        have hst := Rp.St.both ((Rp.St.leaf (k := 2) (c := Rp.ints Dm.zero) HS.out).pick [3, 0, 1, 2, 4] 5 (ρ := Rp.kidsA fp ao c t :: Rp.kidsA [] none 0 Rp.empty :: Rp.rt T s b op :: aCel w1.heap.size 27 #[.int .i64 t.kind, .int .u64 (Rp.cw t 0), .int .u64 (Rp.cw t 1), .int .u64 (Rp.cw t 2), .int .u64 (Rp.cw t 3), .slice ao t.kids.length c] :: aCel w.heap.size 27 #[.int .i64 0, .int .u64 0, .int .u64 0, .int .u64 0, .int .u64 0, .slice none 0 0] :: μ) rfl rfl)
        have HTW := Lib.hid (rPairB_any 5 (by decide) (by decide) t Rp.empty ao none c 0 _ HF.out Rp.fine_empty w0 _ _ hst)
        clear hst HS
        unfold Rp.rxA at HTW
        go_wp2_with (fail)
        go_at_call 121
        refine HTW.out.mono ?_
        rintro ex w4 ⟨g4, fr, rfl, hst4⟩
        clear c0 c1 c2 f1 f2 z0 z1 z2 z3 z4 z5
        obtain ⟨y0, y1, y2, y3, y4, y5⟩ := Rx.cel6 hst4 2 rfl
        obtain ⟨u0, u1, u2, u3, u4, u5⟩ := Rp.free6 hst4 2 rfl
        obtain ⟨c0, c1, c2, f1, f2⟩ := Rp.rtAt (hst4.pick [1] 4 (ρ := Rp.rt T s b op :: μ) rfl rfl)
        have HS7 := Lib.hid (Rp.set6 (hst4.pick [2, 1, 0, 3] 4 (ρ := aCel w1.heap.size 27 #[.int .i64 t.kind, .int .u64 (Rp.cw t 0), .int .u64 (Rp.cw t 1), .int .u64 (Rp.cw t 2), .int .u64 (Rp.cw t 3), .slice ao t.kids.length c] :: Rp.rt T s b op :: Rp.kidsA fr (some ⟨g4, 0, none⟩) 2 (Rp.two 5 t Rp.empty) :: aCel w.heap.size 27 #[.int .i64 0, .int .u64 0, .int .u64 0, .int .u64 0, .int .u64 0, .slice none 0 0] :: μ) rfl rfl) (.int .i64 5) (.int .u64 0) (.int .u64 0) (.int .u64 0) (.int .u64 0) (.slice (some ⟨g4, 0, none⟩) 2 2))
        clear hst4
        have HS8 := Lib.hid (Rp.rtSetA (HS7.out.get2) ((b : Int) + 1))
        clear HS7
        go_wp2
        go_roundg (s.size + 1 - (b + 1))
        case measure => have := HGK.out; omega
        case rel => exact ⟨Rp.two 5 t Rp.empty, _, _, _, Lib.hid (Rp.fine_two (by decide) (by decide)), .inl ⟨b + 1, f, rfl, hlt, rfl, by omega, HNX, by rw [Rp.nc]; exact HS8.out⟩⟩
      by_cases k43 : Rp.pk s b = 43
      · have hlt := Rp.pk_lt 43 (by decide) k43
        have HNX := Lib.hid ((Rp.repL_plus k43).symm.trans HRES.out)
        rw [k43] at HPK
        go_wp2_with (fail)
        go_at_call 120
        refine HPK.out.mono ?_
        clear HPK HS
        rintro ex w2 ⟨rfl, hst⟩
        have HS := Lib.hid hst
        clear hst
        obtain ⟨c0, c1, c2, f1, f2⟩ := Rp.rtAt HS.out
        obtain ⟨z0, z1, z2, z3, z4, z5⟩ := Rx.cel6 HS.out 1 rfl
        obtain ⟨hh, hn⟩ := Rp.kidsEnc HF.out HS.out 2 rfl
        have hsz102 : min (0 + Rp.siz t) 102 = min (Rp.siz t) 102 := by rw [Nat.zero_add]
        have hA := HS.out.alloc (Rp.rxA t ao c) 27
        have HWG := Lib.hid (fun W hW => rrWeight_any _ _ hh t _ 0 W hn (by decide) hW)
        rw [hsz102] at HWG
        obtain ⟨SZ, hSZ⟩ : ∃ z, Rp.siz t = z := ⟨_, rfl⟩
        have HSZE := Lib.hid hSZ
        rw [hSZ] at HWG
        obtain ⟨MZ, hMZ⟩ : ∃ z : Nat, min SZ 102 = z := ⟨_, rfl⟩
        rw [hMZ] at HWG
        have HMZ := Lib.hid hMZ
        have HA := Lib.hid hA
        have HBE := Lib.hid ((Below.refl w2.heap.size w2).alloc (Nat.le_refl _) (.cells (Rp.rxA t ao c) 27))
        unfold Rp.rxA at HWG HA HBE
        clear hn hsz102 hA hSZ hMZ HS
        obtain ⟨d0, d1, d2, d3, d4, d5⟩ := Rx.cel6 HA.out 2 rfl
        by_cases h100 : 100 < SZ
        · have h100I : (MZ : Int) > 100 := by have := HMZ.out; omega
          go_wp2_with (fail)
          go_at_call 182
          refine (HWG.out _ HBE.out).mono ?_
          rintro ex w3 ⟨rfl, hb3⟩
          have hst3 := HA.out.call hb3
          obtain ⟨x0, x1, x2, x3, x4, x5⟩ := Rx.cel6 hst3 0 rfl
          obtain ⟨v0, v1, v2, v3, v4, v5⟩ := Rp.free6 hst3 0 rfl
          clear d0 d1 d2 d3 d4 d5 z0 z1 z2 z3 z4 z5
          obtain ⟨z0, z1, z2, z3, z4, z5⟩ := Rx.cel6 hst3 2 rfl
          have hne : ¬ w1.heap.size = w2.heap.size := by
            intro e
            have hs9 := hst3.sep
            simp [Rp.rt, aCel, e] at hs9
          have hst5 := Rp.set6 hst3 (.int .i64 2) (.int .u64 0) (.int .u64 0) (.int .u64 0) (.int .u64 0) (.slice none 0 0)
          have hst6 := ((Rp.St.leaf (k := 2) (c := Rp.ints Dm.zero) hst5).alloc (Rp.rxA Rp.empty none 0) 27)
          simp only [World.size_setCell] at hst6
          have hst7 := Rp.St.both ((Rp.St.star (hst6.pick [0, 1, 5, 3, 4, 6] 7 (ρ := aCel w3.heap.size 27 (Rp.rxA Rp.empty none 0) :: Rp.kidsA [] none 0 Rp.empty :: Rp.kidsA fp ao c t :: Rp.rt T s b op :: aCel w1.heap.size 27 #[.int .i64 t.kind, .int .u64 (Rp.cw t 0), .int .u64 (Rp.cw t 1), .int .u64 (Rp.cw t 2), .int .u64 (Rp.cw t 3), .slice ao t.kids.length c] :: aCel w.heap.size 27 #[.int .i64 0, .int .u64 0, .int .u64 0, .int .u64 0, .int .u64 0, .slice none 0 0] :: μ) rfl rfl) Rp.fine_empty).get2)
          clear hst3 hst5 hst6 hb3
          have HTW := Lib.hid (rPairB_any 4 (by decide) (by decide) t (Rp.star Rp.empty) ao (some ⟨w3.heap.size, 0, none⟩) c 1 _ HF.out Rp.fine_star w0 _ _ hst7)
          unfold Rp.rxA at HTW
          go_wp2_with (fail)
          go_at_call 121
          refine HTW.out.mono ?_
          rintro ex w4 ⟨g4, fr, rfl, hst4⟩
          clear c0 c1 c2 f1 f2 z0 z1 z2 z3 z4 z5
          obtain ⟨y0, y1, y2, y3, y4, y5⟩ := Rx.cel6 hst4 2 rfl
          obtain ⟨u0, u1, u2, u3, u4, u5⟩ := Rp.free6 hst4 2 rfl
          obtain ⟨c0, c1, c2, f1, f2⟩ := Rp.rtAt (hst4.pick [1] 4 (ρ := Rp.rt T s b op :: μ) rfl rfl)
          have HS7 := Lib.hid (Rp.set6 (hst4.pick [2, 1, 0, 3] 4 (ρ := aCel w1.heap.size 27 #[.int .i64 t.kind, .int .u64 (Rp.cw t 0), .int .u64 (Rp.cw t 1), .int .u64 (Rp.cw t 2), .int .u64 (Rp.cw t 3), .slice ao t.kids.length c] :: Rp.rt T s b op :: Rp.kidsA fr (some ⟨g4, 0, none⟩) 2 (Rp.two 4 t (Rp.star Rp.empty)) :: aCel w.heap.size 27 #[.int .i64 0, .int .u64 0, .int .u64 0, .int .u64 0, .int .u64 0, .slice none 0 0] :: μ) rfl rfl) (.int .i64 4) (.int .u64 0) (.int .u64 0) (.int .u64 0) (.int .u64 0) (.slice (some ⟨g4, 0, none⟩) 2 2))
          clear hst4
          have HNX := Lib.hid (by have h := HNX.out; rw [Rp.plus_big (t := t) (by rw [HSZE.out]; omega)] at h; exact h)
          have HS8 := Lib.hid (Rp.rtSetA (HS7.out.get2) ((b : Int) + 1))
          clear HS7
          go_wp2
          go_roundg (s.size + 1 - (b + 1))
          case measure => have := HGK.out; omega
          case rel => exact ⟨Rp.two 4 t (Rp.star Rp.empty), _, _, _, Lib.hid (Rp.fine_two (by decide) (by decide)), .inl ⟨b + 1, f, rfl, hlt, rfl, by omega, HNX, by rw [Rp.nc]; exact HS8.out⟩⟩
        · have h100I : ¬ (MZ : Int) > 100 := by have := HMZ.out; omega
          go_wp2_with (fail)
          go_at_call 182
          refine (HWG.out _ HBE.out).mono ?_
          rintro ex w3 ⟨rfl, hb3⟩
          have hst3 := HA.out.call hb3
          obtain ⟨x0, x1, x2, x3, x4, x5⟩ := Rx.cel6 hst3 0 rfl
          clear d0 d1 d2 d3 d4 d5 z0 z1 z2 z3 z4 z5
          obtain ⟨z0, z1, z2, z3, z4, z5⟩ := Rx.cel6 hst3 2 rfl
          have hst7 := Rp.St.share ((hst3.alloc (Rp.rxA t ao c) 27).pick [0, 4, 2, 3, 5] 6 (ρ := aCel w3.heap.size 27 (Rp.rxA t ao c) :: Rp.kidsA fp ao c t :: Rp.rt T s b op :: aCel w1.heap.size 27 #[.int .i64 t.kind, .int .u64 (Rp.cw t 0), .int .u64 (Rp.cw t 1), .int .u64 (Rp.cw t 2), .int .u64 (Rp.cw t 3), .slice ao t.kids.length c] :: aCel w.heap.size 27 #[.int .i64 0, .int .u64 0, .int .u64 0, .int .u64 0, .int .u64 0, .slice none 0 0] :: μ) rfl rfl) HF.out
          clear hst3 hb3
          have HTW := Lib.hid (rPairB_any 4 (by decide) (by decide) t (Rp.star t) ao (some ⟨w3.heap.size, 0, none⟩) c 1 _ HF.out Rp.fine_star w0 _ _ hst7)
          unfold Rp.rxA at HTW
          go_wp2_with (fail)
          go_at_call 121
          refine HTW.out.mono ?_
          rintro ex w4 ⟨g4, fr, rfl, hst4⟩
          clear c0 c1 c2 f1 f2 z0 z1 z2 z3 z4 z5
          obtain ⟨y0, y1, y2, y3, y4, y5⟩ := Rx.cel6 hst4 2 rfl
          obtain ⟨u0, u1, u2, u3, u4, u5⟩ := Rp.free6 hst4 2 rfl
          obtain ⟨c0, c1, c2, f1, f2⟩ := Rp.rtAt (hst4.pick [1] 4 (ρ := Rp.rt T s b op :: μ) rfl rfl)
          have HS7 := Lib.hid (Rp.set6 (hst4.pick [2, 1, 0, 3] 4 (ρ := aCel w1.heap.size 27 #[.int .i64 t.kind, .int .u64 (Rp.cw t 0), .int .u64 (Rp.cw t 1), .int .u64 (Rp.cw t 2), .int .u64 (Rp.cw t 3), .slice ao t.kids.length c] :: Rp.rt T s b op :: Rp.kidsA fr (some ⟨g4, 0, none⟩) 2 (Rp.two 4 t (Rp.star t)) :: aCel w.heap.size 27 #[.int .i64 0, .int .u64 0, .int .u64 0, .int .u64 0, .int .u64 0, .slice none 0 0] :: μ) rfl rfl) (.int .i64 4) (.int .u64 0) (.int .u64 0) (.int .u64 0) (.int .u64 0) (.slice (some ⟨g4, 0, none⟩) 2 2))
          clear hst4
          have HNX := Lib.hid (by have h := HNX.out; rw [Rp.plus_small (t := t) (by rw [HSZE.out]; omega)] at h; exact h)
          have HS8 := Lib.hid (Rp.rtSetA (HS7.out.get2) ((b : Int) + 1))
          clear HS7
          go_wp2
          go_roundg (s.size + 1 - (b + 1))
          case measure => have := HGK.out; omega
          case rel => exact ⟨Rp.two 4 t (Rp.star t), _, _, _, Lib.hid (Rp.fine_two (by decide) (by decide)), .inl ⟨b + 1, f, rfl, hlt, rfl, by omega, HNX, by rw [Rp.nc]; exact HS8.out⟩⟩
      have HEND := Lib.hid (Rp.repL_end (f := f) (t := t) k42 k43 k63)
      obtain ⟨PZ, hPZ⟩ : ∃ PZ, Rp.pk s b = PZ := ⟨_, rfl⟩
      have e42 : (PZ == 42) = false := by rw [beq_eq_false_iff_ne, ← hPZ]; exact k42
      have e43 : (PZ == 43) = false := by rw [beq_eq_false_iff_ne, ← hPZ]; exact k43
      have e63 : (PZ == 63) = false := by rw [beq_eq_false_iff_ne, ← hPZ]; exact k63
      rw [hPZ] at HPK
      clear k42 k43 k63 hPZ
      go_wp2_with (fail)
      go_at_call 120
      refine HPK.out.mono ?_
      clear HPK HS
      rintro ex w2 ⟨rfl, hst⟩
      have HS := Lib.hid hst
      clear hst
      obtain ⟨c0, c1, c2, f1, f2⟩ := Rp.rtAt HS.out

      clear c0 c1 c2 f1 f2
      obtain ⟨z0, z1, z2, z3, z4, z5⟩ := Rx.cel6 HS.out 1 rfl
      obtain ⟨x0, x1, x2, x3, x4, x5⟩ := Rx.cel6 HS.out 3 rfl
      obtain ⟨v0, v1, v2, v3, v4, v5⟩ := Rp.free6 HS.out 3 rfl
      have HS9 := Lib.hid (Rp.set6 (HS.out.pick [3, 2, 0] 4 rfl rfl) (.int .i64 t.kind) (.int .u64 (Rp.cw t 0)) (.int .u64 (Rp.cw t 1)) (.int .u64 (Rp.cw t 2)) (.int .u64 (Rp.cw t 3)) (.slice ao t.kids.length c))
      clear HS
      go_wp2
      refine bodyPost_ret (results_row_tmp rfl _ _ w.heap.size 27 _ _ rfl (HS9.out.heapAt 0 rfl) Try.underlying27 rfl (by kernel_rfl)) rfl ?_
      exact Rp.leftS_ok (t := t) (HRES.out.symm.trans HEND.out) hb HF.out rfl HS9.out.drop
    · obtain ⟨hres, hee⟩ := HERR.out
      have HRES := Lib.hid hres
      have HEE := Lib.hid hee
      unfold Rp.rxA at hst
      have HS := Lib.hid hst
      clear hst hres hee
      obtain ⟨z0, z1, z2, z3, z4, z5⟩ := Rx.cel6 HS.out 1 rfl
      obtain ⟨x0, x1, x2, x3, x4, x5⟩ := Rx.cel6 HS.out 4 rfl
      obtain ⟨v0, v1, v2, v3, v4, v5⟩ := Rp.free6 HS.out 4 rfl
      have HS9 := Lib.hid (Rp.set6 (HS.out.pick [4, 2, 3, 0] 5 rfl rfl) (.int .i64 t.kind) (.int .u64 (Rp.cw t 0)) (.int .u64 (Rp.cw t 1)) (.int .u64 (Rp.cw t 2)) (.int .u64 (Rp.cw t 3)) (.slice ao t.kids.length c))
      clear HS
      go_wp2
      refine bodyPost_ret (results_row_tmp rfl _ _ w.heap.size 27 _ _ rfl (HS9.out.heapAt 0 rfl) Try.underlying27 rfl (by kernel_rfl)) rfl ?_
      exact Rp.leftS_bad (t := t) HRES.out HEE.out HF.out rfl HS9.out.drop

end Go.Proofs.Ytfelikfppjlcmaa
