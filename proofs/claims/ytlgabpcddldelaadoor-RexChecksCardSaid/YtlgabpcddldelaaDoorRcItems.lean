/-
  items of package rex: the runs of a class.
-/
import Derived.Test.YtlgabpcddldelaaDoorRcr
import Derived.Test.YtlgabpcddldelaaDoorRctChar
import Derived.Test.YtlgabpcddldelaaDoorClsClo
namespace Go.Proofs.YtlgabpcddldelaaDoor
set_option linter.unusedVariables false
set_option linter.unusedSimpArgs false
open Go.ChangeShapes Go.WideShapes Go.ChangeAt Go.RowKit

namespace Rct
/-- The bytes of a class, as a text. -/
structure Txt (p : Nat → Bool) (S : ByteArray) : Prop where
  size : S.size = (lst p).length
  get : ∀ k (h : k < S.size), (((S[k]'h).toNat : Nat) : Int) = (nth p k : Int)
theorem txt_of (p : Nat → Bool) : Txt p (strOfNums ((lst p).map Cs.bI)) := by
  have hs : (strOfNums ((lst p).map Cs.bI)).size = (lst p).length := by simp [strOfNums, ByteArray.size]
  refine ⟨hs, fun k hk => ?_⟩
  rw [hs] at hk
  have h1 := (nth_in hk).1
  have e : nth p k = (lst p)[k] := by unfold nth; simp [List.getD, List.getElem?_eq_getElem hk]
  have e2 : (strOfNums ((lst p).map Cs.bI))[k] = ((lst p)[k]).toUInt8 := by
    simp [strOfNums, Cs.bI, ByteArray.getElem_eq_getElem_data]
  rw [e2, ← e]
  simp
  omega
end Rct

set_option maxRecDepth 100000 in
set_option maxHeartbeats 4000000 in
theorem rxItems_any (ws : List Nat) (hw : Dm.Ok4 ws) (w : World) (hT : Tz.Tab w) :
    Calls Tryd.prog 91 #[Cs.clV ws] w fun e w' => e = .returned (.string (Rct.runs (Dm.mem ws))) ∧ Below w.heap.size w w' := by
  have HT := Lib.hid hT
  obtain ⟨a0, a1, a2, a3, rfl⟩ := Cs.okFour hw
  have HB := Lib.hid (fun W (h : Below w.heap.size w W) => clBytes_any [a0, a1, a2, a3] hw W (fun j hj => bkeep h (hT j hj)))
  rw [Cs.bytes_all] at HB
  have htx := Rct.txt_of (Dm.mem [a0, a1, a2, a3])
  rw [show (List.range 256).filter (Dm.mem [a0, a1, a2, a3]) = Rct.lst (Dm.mem [a0, a1, a2, a3]) from rfl] at HB
  obtain ⟨S, hS⟩ : ∃ S, strOfNums ((Rct.lst (Dm.mem [a0, a1, a2, a3])).map Cs.bI) = S := ⟨_, rfl⟩
  rw [hS] at HB htx
  clear hS
  have HST := Lib.hid ((St.init w).alloc #[.int .u64 a0, .int .u64 a1, .int .u64 a2, .int .u64 a3] 24)
  rw [show Cs.clV [a0, a1, a2, a3] = .agg #[.int .u64 a0, .int .u64 a1, .int .u64 a2, .int .u64 a3] from rfl] at HB ⊢
  generalize Dm.mem [a0, a1, a2, a3] = p at *
  have HTX := Lib.hid htx
  have hsz : S.size ≤ 256 := by rw [htx.size]; exact Rct.lst_len
  have HZ := Lib.hid htx.size
  clear hT hw htx
  obtain ⟨R, hR⟩ : ∃ R, Rct.runs p = R := ⟨_, rfl⟩
  rw [hR]
  have HR := Lib.hid hR
  clear hR
  go_enter Tryd.func91, Tryd.ntmps91
  go_wp2_with (fail)
  go_at_call 21
  refine (HB.out _ HST.out.bel).mono ?_
  rintro e w1 ⟨rfl, hb1⟩
  have HST := Lib.hid (HST.out.call hb1)
  clear hb1 HB
  go_wp2_with (fail)
  go_loopg [4, 5] S.size (fun gz v4 v5 wr => ∃ (i : Nat) (out : ByteArray), i ≤ S.size ∧ gz = S.size - i ∧ v5 = .int .i64 i ∧ v4 = .string out ∧ Hid (Rct.At p i out) ∧ Below w.heap.size w wr)
  case atStart => exact ⟨0, ⟨#[]⟩, by omega, by omega, rfl, rfl, Lib.hid Rct.at_zero, HST.out.bel⟩
  case round =>
    clear HST
    obtain ⟨i, out, hi, hgz, rfl, rfl, HAT, hB⟩ := hrel
    have HGZ := Lib.hid hgz
    clear hgz
    by_cases hlt : i < S.size
    · have hltI : (i : Int) < S.size := by omega
      have hos : out.size ≤ 2304 := by
        rw [HAT.out.1]
        have := Rct.runsK_size (p := p) (Rct.nth_le (p := p) i)
        have := Rct.nth_le (p := p) i
        omega
      go_wp2_with (fail)
      go_loopg [6] (S.size - i) (fun gy v6 wr => ∃ k : Nat, i ≤ k ∧ k < S.size ∧ gy = S.size - k ∧ v6 = .int .i64 k ∧ Hid (Rct.fin p (Rct.nth p i) = Rct.fin p (Rct.nth p k) ∧ Rct.nth p k = Rct.nth p i + (k - i)) ∧ Below w.heap.size w wr)
      case atStart => exact ⟨i, by omega, hlt, rfl, rfl, Lib.hid ⟨rfl, by omega⟩, hB⟩
      case round =>
        clear hB
        obtain ⟨k, hik, hks, hgy, rfl, HF, hB⟩ := hrel
        have HGY := Lib.hid hgy
        clear hgy
        have gk := HTX.out.get k hks
        obtain ⟨hk1, hk2⟩ := Rct.nth_in (p := p) (i := k) (by rw [← HTX.out.size]; exact hks)
        have hwk : IntKind.i64.wrap ((k : Int) + 1) = ((k + 1 : Nat) : Int) := (IntWalk.i64_in _ (by omega)).trans (by omega)
        by_cases hg : k + 1 < S.size ∧ Rct.nth p (k + 1) = Rct.nth p k + 1
        · obtain ⟨hg1, hg2⟩ := hg
          have hg1I : (k : Int) + 1 < S.size := by omega
          have hgd : decide ((k : Int) + 1 < (S.size : Int)) = true := decide_eq_true hg1I
          have gk1 := HTX.out.get (k + 1) hg1
          have hk3 := (Rct.nth_in (p := p) (i := k + 1) (by rw [← HTX.out.size]; exact hg1)).1
          have HFN := Lib.hid (Rct.fin_on (p := p) (k := k) (by rw [← HTX.out.size]; exact hks) ⟨by rw [← HTX.out.size]; exact hg1, hg2⟩)
          have hx1 : ((Rct.nth p (k + 1) : Nat) : Int) = ((Rct.nth p k : Nat) : Int) + 1 := by omega
          rw [hx1] at gk1
          have hw8 : IntKind.u8.wrap (((Rct.nth p k : Nat) : Int) + 1) = ((Rct.nth p k : Nat) : Int) + 1 := IntWalk.u8_in _ (by omega)
          have HD := Lib.hid (show Rct.nth p (k + 1) = Rct.nth p i + (k + 1 - i) by have := HF.out.2; omega)
          have HN := Lib.hid fun n => below_drewN hB n
          clear hx1 hg2 hk2 hB hk3
          generalize Rct.nth p k = x at *
          go_wp2_with (fail)
          go_quiet (fail)
          have hB := HN.out nq
          go_wp2
          go_roundg (S.size - (k + 1))
          case measure => have := HGY.out; omega
          case rel => exact ⟨k + 1, by omega, hg1, rfl, by go_num, Lib.hid ⟨HF.out.1.trans HFN.out, HD.out⟩, hB⟩
        · have hlst : k < (Rct.lst p).length := by rw [← HTX.out.size]; exact hks
          have hg' : ¬ (k + 1 < (Rct.lst p).length ∧ Rct.nth p (k + 1) = Rct.nth p k + 1) := by rw [← HTX.out.size]; exact hg
          have hfe := HF.out.1.trans (Rct.fin_off hlst hg')
          have HNX := Lib.hid (Rct.at_next hik hlst HAT.out hfe hg')
          have gi := HTX.out.get i hlt
          have hni := (Rct.nth_in (p := p) (i := i) (by rw [← HTX.out.size]; exact hlt)).1
          have HC1 := Lib.hid (fun W => rxChar_any (Rct.nth p i) hni W)
          have HC2 := Lib.hid (fun W => rxChar_any (Rct.nth p k) hk1 W)
          have hcs1 := Rct.ct_size _ hni
          have hcs2 := Rct.ct_size _ hk1
          have HADD := Lib.hid (show Rct.addR out (Rct.nth p i) (Rct.nth p k) = if Rct.nth p i < Rct.nth p k then (if Rct.nth p i + 1 < Rct.nth p k then out ++ Rct.ct (Rct.nth p i) ++ ⟨#[45]⟩ else out ++ Rct.ct (Rct.nth p i)) ++ Rct.ct (Rct.nth p k) else out ++ Rct.ct (Rct.nth p i) from rfl)
          have HUP := Lib.hid (Rct.nth_up hlst)
          have hkd := HF.out.2
          rw [hkd] at HADD
          have hd1 : Rct.nth p i < Rct.nth p i + (k - i) ↔ i < k := by omega
          have hd2 : Rct.nth p i + 1 < Rct.nth p i + (k - i) ↔ i + 1 < k := by omega
          simp only [hd1, hd2] at HADD
          rw [hkd] at HNX gk HC2 hcs2 HUP hg hk1
          generalize hN2 : Rct.nth p i + (k - i) = nk at *
          obtain ⟨T, hT2⟩ : ∃ T, Rct.addR out (Rct.nth p i) nk = T := ⟨_, rfl⟩
          rw [hT2] at HNX HADD
          have HN := Lib.hid fun n => below_drewN hB n
          have hwr2 : IntKind.i64.wrap ((i : Int) + 1) = ((i + 1 : Nat) : Int) := (IntWalk.i64_in _ (by omega)).trans (by omega)
          have HSC : Hid (S.size ≤ 256) := Lib.hid hsz
          have step : Hid (∀ (ct1 : ByteArray), ct1.size ≤ 4 → ∀ W, (Op.stringOp .add out ct1).run Tryd.prog W = .ok (.string (out ++ ct1)) W) := Lib.hid fun ct1 h W => run_string_add_sum W _ _ (by omega)
          have hadd1 : ∀ W, (Op.stringOp .add out (Rct.ct (Rct.nth p i))).run Tryd.prog W = .ok (.string (out ++ Rct.ct (Rct.nth p i))) W := step.out _ hcs1
          have hs1 : (out ++ Rct.ct (Rct.nth p i)).size ≤ 2308 := by rw [ByteArray.size_append]; omega
          clear hkd hT2 hN2 hd1 hd2 hfe hg' hlst hk2 hB HAT HF
          generalize Rct.ct (Rct.nth p i) = c1 at *
          generalize Rct.ct nk = c2 at *
          generalize Rct.nth p i = ni at *
          generalize hO1 : out ++ c1 = o1 at *
          clear hO1
          have hadd2 : ∀ W, (Op.stringOp .add o1 ⟨#[45]⟩).run Tryd.prog W = .ok (.string (o1 ++ ⟨#[45]⟩)) W := fun W => run_string_add_sum W _ _ (by show o1.size + 1 ≤ _; omega)
          have hs2 : (o1 ++ ⟨#[45]⟩).size ≤ 2309 := by rw [ByteArray.size_append]; show o1.size + 1 ≤ _; omega
          have hadd3 : ∀ W, (Op.stringOp .add o1 c2).run Tryd.prog W = .ok (.string (o1 ++ c2)) W := fun W => run_string_add_sum W _ _ (by omega)
          generalize hO2 : o1 ++ ⟨#[45]⟩ = o2 at *
          clear hO2
          have hadd4 : ∀ W, (Op.stringOp .add o2 c2).run Tryd.prog W = .ok (.string (o2 ++ c2)) W := fun W => run_string_add_sum W _ _ (by omega)
          generalize hO3 : o2 ++ c2 = o3 at *
          generalize hO4 : o1 ++ c2 = o4 at *
          have HO3 := Lib.hid hO3; have HO4 := Lib.hid hO4
          clear hO3 hO4 hs1 hs2
          by_cases hg1 : k + 1 < S.size
          · have hg1I : (k : Int) + 1 < S.size := by omega
            have hgd : decide ((k : Int) + 1 < (S.size : Int)) = true := decide_eq_true hg1I
            have gk1 := HTX.out.get (k + 1) hg1
            have hn1 := (Rct.nth_in (p := p) (i := k + 1) (by rw [← HTX.out.size]; exact hg1)).1
            have hup := HUP.out
            have hw8 : IntKind.u8.wrap ((nk : Int) + 1) = (nk : Int) + 1 := IntWalk.u8_in _ (by omega)
            have hne : ((Rct.nth p (k + 1) : Nat) : Int) ≠ (nk : Int) + 1 := fun e => hg ⟨hg1, by omega⟩
            have htest : (((Rct.nth p (k + 1) : Nat) : Int) == (nk : Int) + 1) = false := by rw [beq_eq_false_iff_ne]; exact hne
            clear hne hg hup
            generalize Rct.nth p (k + 1) = nx at *
            go_wp2_with (fail)
            go_quiet (fail)
            have HB := Lib.hid (HN.out nq)
            clear HN
            generalize World.drewN _ _ = W2 at *
            go_wp2_with (fail)
            go_at_call 90
            refine (HC1.out _).mono ?_
            rintro e w5 ⟨rfl, hb5⟩
            have HB := Lib.hid (HB.out.trans (hb5.mono HB.out.size))
            clear hb5
            by_cases h1 : i < k
            · have h1I : (i : Int) < k := by omega
              by_cases h2 : i + 1 < k
              · have h2I : (i : Int) + 1 < k := by omega
                have HE := Lib.hid (show T = o3 by rw [HADD.out, if_pos h1, if_pos h2, HO3.out])
                go_wp2_with (fail)
                go_at_call 90
                refine (HC2.out _).mono ?_
                rintro e w6 ⟨rfl, hb6⟩
                have HB := Lib.hid (HB.out.trans (hb6.mono HB.out.size))
                clear hb6
                go_wp2
                go_roundg (S.size - (k + 1))
                case measure => have := HGZ.out; omega
                case rel => exact ⟨k + 1, o3, by omega, rfl, by go_num, rfl, by rw [← HE.out]; exact HNX, HB.out⟩
              · have h2I : ¬ (i : Int) + 1 < k := by omega
                have HE := Lib.hid (show T = o4 by rw [HADD.out, if_pos h1, if_neg h2, HO4.out])
                go_wp2_with (fail)
                go_at_call 90
                refine (HC2.out _).mono ?_
                rintro e w6 ⟨rfl, hb6⟩
                have HB := Lib.hid (HB.out.trans (hb6.mono HB.out.size))
                clear hb6
                go_wp2
                go_roundg (S.size - (k + 1))
                case measure => have := HGZ.out; omega
                case rel => exact ⟨k + 1, o4, by omega, rfl, by go_num, rfl, by rw [← HE.out]; exact HNX, HB.out⟩
            · have h1I : ¬ (i : Int) < k := by omega
              have h2I : ¬ (i : Int) + 1 < k := by omega
              have HE := Lib.hid (show T = o1 by rw [HADD.out, if_neg h1])
              go_wp2
              go_roundg (S.size - (k + 1))
              case measure => have := HGZ.out; omega
              case rel => exact ⟨k + 1, o1, by omega, rfl, by go_num, rfl, by rw [← HE.out]; exact HNX, HB.out⟩
          · have hg1I : ¬ (k : Int) + 1 < S.size := by omega
            have hgd : decide ((k : Int) + 1 < (S.size : Int)) = false := decide_eq_false hg1I
            clear hg
            go_wp2_with (fail)
            go_quiet (fail)
            have HB := Lib.hid (HN.out nq)
            clear HN
            generalize World.drewN _ _ = W2 at *
            go_wp2_with (fail)
            go_at_call 90
            refine (HC1.out _).mono ?_
            rintro e w5 ⟨rfl, hb5⟩
            have HB := Lib.hid (HB.out.trans (hb5.mono HB.out.size))
            clear hb5
            by_cases h1 : i < k
            · have h1I : (i : Int) < k := by omega
              by_cases h2 : i + 1 < k
              · have h2I : (i : Int) + 1 < k := by omega
                have HE := Lib.hid (show T = o3 by rw [HADD.out, if_pos h1, if_pos h2, HO3.out])
                go_wp2_with (fail)
                go_at_call 90
                refine (HC2.out _).mono ?_
                rintro e w6 ⟨rfl, hb6⟩
                have HB := Lib.hid (HB.out.trans (hb6.mono HB.out.size))
                clear hb6
                go_wp2
                go_roundg (S.size - (k + 1))
                case measure => have := HGZ.out; omega
                case rel => exact ⟨k + 1, o3, by omega, rfl, by go_num, rfl, by rw [← HE.out]; exact HNX, HB.out⟩
              · have h2I : ¬ (i : Int) + 1 < k := by omega
                have HE := Lib.hid (show T = o4 by rw [HADD.out, if_pos h1, if_neg h2, HO4.out])
                go_wp2_with (fail)
                go_at_call 90
                refine (HC2.out _).mono ?_
                rintro e w6 ⟨rfl, hb6⟩
                have HB := Lib.hid (HB.out.trans (hb6.mono HB.out.size))
                clear hb6
                go_wp2
                go_roundg (S.size - (k + 1))
                case measure => have := HGZ.out; omega
                case rel => exact ⟨k + 1, o4, by omega, rfl, by go_num, rfl, by rw [← HE.out]; exact HNX, HB.out⟩
            · have h1I : ¬ (i : Int) < k := by omega
              have h2I : ¬ (i : Int) + 1 < k := by omega
              have HE := Lib.hid (show T = o1 by rw [HADD.out, if_neg h1])
              go_wp2
              go_roundg (S.size - (k + 1))
              case measure => have := HGZ.out; omega
              case rel => exact ⟨k + 1, o1, by omega, rfl, by go_num, rfl, by rw [← HE.out]; exact HNX, HB.out⟩
    · have hge : ¬ ((i : Int) < S.size) := by omega
      have HEQ := Lib.hid ((Rct.at_end (by rw [← HZ.out]; exact hlt) HAT.out).trans HR.out)
      go_wp2
      go_ret
      exact ⟨by rw [← HEQ.out]; rfl, hB⟩
end Go.Proofs.YtlgabpcddldelaaDoor
