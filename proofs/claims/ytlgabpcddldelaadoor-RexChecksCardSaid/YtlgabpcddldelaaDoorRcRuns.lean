/-
  runs and size of the reference: the runs of a class.
-/
import Derived.Test.YtlgabpcddldelaaDoorRcItems
namespace Go.Proofs.YtlgabpcddldelaaDoor
set_option linter.unusedVariables false
set_option linter.unusedSimpArgs false
open Go.ChangeShapes Go.WideShapes Go.ChangeAt Go.RowKit

set_option maxRecDepth 100000 in
set_option maxHeartbeats 4000000 in
theorem rRuns_any (ws : List Nat) (hw : Dm.Ok4 ws) (w : World) :
    Calls Tryd.prog 51 #[Cs.clV ws] w fun e w' => e = .returned (.string (Rct.runs (Dm.mem ws))) ∧ Below w.heap.size w w' := by
  obtain ⟨a0, a1, a2, a3, rfl⟩ := Cs.okFour hw
  have HHA := Lib.hid (fun b hb W => Cs.has_words [a0, a1, a2, a3] hw b hb W)
  have HST := Lib.hid ((St.init w).alloc #[.int .u64 a0, .int .u64 a1, .int .u64 a2, .int .u64 a3] 24)
  rw [show Cs.clV [a0, a1, a2, a3] = .agg #[.int .u64 a0, .int .u64 a1, .int .u64 a2, .int .u64 a3] from rfl] at HHA ⊢
  generalize Dm.mem [a0, a1, a2, a3] = p at *
  clear hw
  go_enter Tryd.func51, Tryd.ntmps51
  go_wp2_with (fail)
  go_loopg [3, 4] 256 (fun gz v3 v4 wr => ∃ (b : Nat), b ≤ 256 ∧ gz = 256 - b ∧ v4 = .int .i64 b ∧ v3 = .string (Rct.runsK p b) ∧ St w wr [aCel w.heap.size 24 #[.int .u64 a0, .int .u64 a1, .int .u64 a2, .int .u64 a3]])
  case atStart => exact ⟨0, by omega, rfl, rfl, rfl, HST.out⟩
  case round =>
    clear HST
    obtain ⟨b, hb, hgz, rfl, rfl, hst⟩ := hrel
    have HGZ := Lib.hid hgz
    clear hgz
    have hos := Rct.runsK_size (p := p) hb
    by_cases hlt : b < 256
    · have hltI : (b : Int) < 256 := by omega
      obtain ⟨z0, z1, z2, z3⟩ := Cs.at4 hst 0 rfl
      have HST := Lib.hid hst
      clear hst
      have HSU := Lib.hid (show Rct.runsK p (b + 1) = if Rct.start p b = true then Rct.addR (Rct.runsK p b) b (Rct.fin p b) else Rct.runsK p b from rfl)
      generalize Rct.runsK p b = out at *
      have HSD := Lib.hid (show Rct.start p b = (p b && !(decide (0 < b) && p (b - 1))) from rfl)
      have HH := Lib.hid (fun W => HHA.out b hlt W)
      obtain ⟨pb, hpb⟩ : ∃ x, p b = x := ⟨_, rfl⟩
      rw [hpb] at HSD HH
      have HPB := Lib.hid hpb
      clear hpb
      go_wp2_with (fail)
      go_at_call 9
      refine (HH.out _).mono ?_
      rintro e w1 ⟨rfl, hb1⟩
      have HST := Lib.hid (HST.out.call hb1)
      clear hb1 HH z0 z1 z2 z3
      obtain ⟨z0, z1, z2, z3⟩ := Cs.at4 HST.out 0 rfl
      cases pb
      · have HE := Lib.hid (show Rct.runsK p (b + 1) = out by rw [HSU.out, HSD.out, Bool.false_and, if_neg (by decide)])
        go_wp2
        go_roundg (256 - (b + 1))
        case measure => have := HGZ.out; omega
        case rel => exact ⟨b + 1, by omega, rfl, by go_num, by rw [HE.out], HST.out⟩
      · by_cases h0 : b = 0
        · have h0I : ¬ (0 : Int) < (b : Int) := by omega
          have h0d : decide ((0 : Int) < (b : Int)) = false := decide_eq_false h0I
          have h0N : ¬ 0 < b := by omega
          have h0d2 : decide (0 < b) = false := decide_eq_false h0N
          have HE := Lib.hid (show Rct.runsK p (b + 1) = Rct.addR out b (Rct.fin p b) by rw [HSU.out, HSD.out, h0d2]; rfl)
          clear h0
          have HC1 := Lib.hid (fun W => rChar_any b hlt W)
          have hcs1 := Rct.ct_size b hlt
          go_wp2_with (fail)
          go_loopg [5] (256 - b) (fun gy v5 wr => ∃ k : Nat, b ≤ k ∧ k < 256 ∧ gy = 256 - k ∧ v5 = .int .i64 k ∧ Hid (Rct.fin p b = Rct.fin p k) ∧ St w wr [aCel w.heap.size 24 #[.int .u64 a0, .int .u64 a1, .int .u64 a2, .int .u64 a3]])
          case atStart => exact ⟨b, Nat.le_refl _, hlt, rfl, rfl, Lib.hid rfl, HST.out⟩
          case round =>
            clear HST z0 z1 z2 z3
            obtain ⟨k, hbk, hk, hgy, rfl, HF, hst⟩ := hrel
            have HGY := Lib.hid hgy
            clear hgy
            obtain ⟨z0, z1, z2, z3⟩ := Cs.at4 hst 0 rfl
            have HST := Lib.hid hst
            clear hst
            by_cases hk5 : k < 255
            · have hk5I : (k : Int) < 255 := by omega
              have hk5d : decide ((k : Int) < 255) = true := decide_eq_true hk5I
              have hk5e : decide (k < 255) = true := decide_eq_true hk5
              have HH := Lib.hid (fun W => HHA.out (k + 1) (by omega) W)
              rw [show ((k + 1 : Nat) : Int) = (k : Int) + 1 by omega] at HH
              have HFN := Lib.hid (Rct.fin_next (p := p) hk5)
              obtain ⟨pk, hpk⟩ : ∃ x, p (k + 1) = x := ⟨_, rfl⟩
              rw [hpk] at HH HFN
              clear hpk
              go_wp2_with (fail)
              go_at_call 9
              refine (HH.out _).mono ?_
              rintro e w3 ⟨rfl, hb3⟩
              have HST := Lib.hid (HST.out.call hb3)
              clear hb3 HH z0 z1 z2 z3
              cases pk
              · have HFE := Lib.hid (show Rct.fin p b = k by rw [HF.out, HFN.out, if_neg (by decide)])
                have HC2 := Lib.hid (fun W => rChar_any k hk W)
                have hcs2 := Rct.ct_size k hk
                have HADD := Lib.hid (show Rct.runsK p (b + 1) = if b < k then (if b + 1 < k then out ++ Rct.ct b ++ ⟨#[45]⟩ else out ++ Rct.ct b) ++ Rct.ct k else out ++ Rct.ct b by rw [HE.out, HFE.out]; rfl)
                obtain ⟨c1, hc1⟩ : ∃ c, Rct.ct b = c := ⟨_, rfl⟩
                obtain ⟨c2, hc2⟩ : ∃ c, Rct.ct k = c := ⟨_, rfl⟩
                rw [hc1] at HC1 hcs1 HADD
                rw [hc2] at HC2 hcs2 HADD
                have hadd1 : ∀ W, (Op.stringOp .add out c1).run Tryd.prog W = .ok (.string (out ++ c1)) W := fun W => run_string_add_sum W _ _ (by omega)
                have hs1 : (out ++ c1).size ≤ 2308 := by rw [ByteArray.size_append]; omega
                clear hc1 hc2
                generalize hO1 : out ++ c1 = o1 at *
                clear hO1
                have hadd2 : ∀ W, (Op.stringOp .add o1 ⟨#[45]⟩).run Tryd.prog W = .ok (.string (o1 ++ ⟨#[45]⟩)) W := fun W => run_string_add_sum W _ _ (by show o1.size + 1 ≤ _; omega)
                have hs2 : (o1 ++ ⟨#[45]⟩).size ≤ 2309 := by rw [ByteArray.size_append]; show o1.size + 1 ≤ _; omega
                have hadd3 : ∀ W, (Op.stringOp .add o1 c2).run Tryd.prog W = .ok (.string (o1 ++ c2)) W := fun W => run_string_add_sum W _ _ (by omega)
                generalize hO2 : o1 ++ ⟨#[45]⟩ = o2 at *
                clear hO2
                have hadd4 : ∀ W, (Op.stringOp .add o2 c2).run Tryd.prog W = .ok (.string (o2 ++ c2)) W := fun W => run_string_add_sum W _ _ (by omega)
                generalize hO3 : o2 ++ c2 = o3 at *
                generalize hO4 : o1 ++ c2 = o4 at *
                have HO3 := Lib.hid hO3; have HO4 := Lib.hid hO4
                clear hO3 hO4 hs1 hs2
                go_wp2_with (fail)
                go_at_call 75
                refine (HC1.out _).mono ?_
                rintro e w5 ⟨rfl, hb5⟩
                have HST := Lib.hid (HST.out.call hb5)
                clear hb5
                by_cases h1 : b < k
                · have h1I : (b : Int) < k := by omega
                  by_cases h2 : b + 1 < k
                  · have h2I : (b : Int) + 1 < k := by omega
                    have HEQ := Lib.hid (show Rct.runsK p (b + 1) = o3 by rw [HADD.out, if_pos h1, if_pos h2, HO3.out])
                    go_wp2_with (fail)
                    go_at_call 75
                    refine (HC2.out _).mono ?_
                    rintro e w6 ⟨rfl, hb6⟩
                    have HST := Lib.hid (HST.out.call hb6)
                    clear hb6
                    go_wp2
                    go_roundg (256 - (b + 1))
                    case measure => have := HGZ.out; omega
                    case rel => exact ⟨b + 1, by omega, rfl, by go_num, by rw [HEQ.out], HST.out⟩
                  · have h2I : ¬ (b : Int) + 1 < k := by omega
                    have HEQ := Lib.hid (show Rct.runsK p (b + 1) = o4 by rw [HADD.out, if_pos h1, if_neg h2, HO4.out])
                    go_wp2_with (fail)
                    go_at_call 75
                    refine (HC2.out _).mono ?_
                    rintro e w6 ⟨rfl, hb6⟩
                    have HST := Lib.hid (HST.out.call hb6)
                    clear hb6
                    go_wp2
                    go_roundg (256 - (b + 1))
                    case measure => have := HGZ.out; omega
                    case rel => exact ⟨b + 1, by omega, rfl, by go_num, by rw [HEQ.out], HST.out⟩
                · have h1I : ¬ (b : Int) < k := by omega
                  have h2I : ¬ (b : Int) + 1 < k := by omega
                  have HEQ := Lib.hid (show Rct.runsK p (b + 1) = o1 by rw [HADD.out, if_neg h1])
                  go_wp2
                  go_roundg (256 - (b + 1))
                  case measure => have := HGZ.out; omega
                  case rel => exact ⟨b + 1, by omega, rfl, by go_num, by rw [HEQ.out], HST.out⟩
              · have HFE := Lib.hid (show Rct.fin p b = Rct.fin p (k + 1) by rw [HF.out, HFN.out, if_pos rfl])
                go_wp2
                go_roundg (256 - (k + 1))
                case measure => have := HGY.out; omega
                case rel => exact ⟨k + 1, by omega, by omega, rfl, by go_num, HFE, HST.out⟩
            · have hk5I : ¬ (k : Int) < 255 := by omega
              have HFE := Lib.hid (show Rct.fin p b = k by rw [HF.out, Rct.fin_last hk5])
              have HC2 := Lib.hid (fun W => rChar_any k hk W)
              have hcs2 := Rct.ct_size k hk
              have HADD := Lib.hid (show Rct.runsK p (b + 1) = if b < k then (if b + 1 < k then out ++ Rct.ct b ++ ⟨#[45]⟩ else out ++ Rct.ct b) ++ Rct.ct k else out ++ Rct.ct b by rw [HE.out, HFE.out]; rfl)
              obtain ⟨c1, hc1⟩ : ∃ c, Rct.ct b = c := ⟨_, rfl⟩
              obtain ⟨c2, hc2⟩ : ∃ c, Rct.ct k = c := ⟨_, rfl⟩
              rw [hc1] at HC1 hcs1 HADD
              rw [hc2] at HC2 hcs2 HADD
              have hadd1 : ∀ W, (Op.stringOp .add out c1).run Tryd.prog W = .ok (.string (out ++ c1)) W := fun W => run_string_add_sum W _ _ (by omega)
              have hs1 : (out ++ c1).size ≤ 2308 := by rw [ByteArray.size_append]; omega
              clear hc1 hc2
              generalize hO1 : out ++ c1 = o1 at *
              clear hO1
              have hadd2 : ∀ W, (Op.stringOp .add o1 ⟨#[45]⟩).run Tryd.prog W = .ok (.string (o1 ++ ⟨#[45]⟩)) W := fun W => run_string_add_sum W _ _ (by show o1.size + 1 ≤ _; omega)
              have hs2 : (o1 ++ ⟨#[45]⟩).size ≤ 2309 := by rw [ByteArray.size_append]; show o1.size + 1 ≤ _; omega
              have hadd3 : ∀ W, (Op.stringOp .add o1 c2).run Tryd.prog W = .ok (.string (o1 ++ c2)) W := fun W => run_string_add_sum W _ _ (by omega)
              generalize hO2 : o1 ++ ⟨#[45]⟩ = o2 at *
              clear hO2
              have hadd4 : ∀ W, (Op.stringOp .add o2 c2).run Tryd.prog W = .ok (.string (o2 ++ c2)) W := fun W => run_string_add_sum W _ _ (by omega)
              generalize hO3 : o2 ++ c2 = o3 at *
              generalize hO4 : o1 ++ c2 = o4 at *
              have HO3 := Lib.hid hO3; have HO4 := Lib.hid hO4
              clear hO3 hO4 hs1 hs2
              go_wp2_with (fail)
              go_at_call 75
              refine (HC1.out _).mono ?_
              rintro e w5 ⟨rfl, hb5⟩
              have HST := Lib.hid (HST.out.call hb5)
              clear hb5
              have h1 : b < k := by omega
              have h2 : b + 1 < k := by omega
              have h1I : (b : Int) < k := by omega
              have h2I : (b : Int) + 1 < k := by omega
              have HEQ := Lib.hid (show Rct.runsK p (b + 1) = o3 by rw [HADD.out, if_pos h1, if_pos h2, HO3.out])
              go_wp2_with (fail)
              go_at_call 75
              refine (HC2.out _).mono ?_
              rintro e w6 ⟨rfl, hb6⟩
              have HST := Lib.hid (HST.out.call hb6)
              clear hb6
              go_wp2
              go_roundg (256 - (b + 1))
              case measure => have := HGZ.out; omega
              case rel => exact ⟨b + 1, by omega, rfl, by go_num, by rw [HEQ.out], HST.out⟩
        · have h0I : (0 : Int) < (b : Int) := by omega
          have h0d : decide ((0 : Int) < (b : Int)) = true := decide_eq_true h0I
          have h0N : 0 < b := by omega
          have h0d2 : decide (0 < b) = true := decide_eq_true h0N
          have hbm : ((b : Int) - 1) = ((b - 1 : Nat) : Int) := by omega
          have hbw : IntKind.i64.wrap ((b - 1 : Nat) : Int) = ((b - 1 : Nat) : Int) := IntWalk.i64_in _ (by omega)
          have HH := Lib.hid (fun W => HHA.out (b - 1) (by omega) W)
          obtain ⟨pm, hpm⟩ : ∃ x, p (b - 1) = x := ⟨_, rfl⟩
          rw [hpm] at HH HSD
          clear hpm
          go_wp2_with (fail)
          go_at_call 9
          refine (HH.out _).mono ?_
          rintro e w2 ⟨rfl, hb2⟩
          have HST := Lib.hid (HST.out.call hb2)
          clear hb2 HH z0 z1 z2 z3
          obtain ⟨z0, z1, z2, z3⟩ := Cs.at4 HST.out 0 rfl
          cases pm
          · have HE := Lib.hid (show Rct.runsK p (b + 1) = Rct.addR out b (Rct.fin p b) by rw [HSU.out, HSD.out]; simp)
            have HC1 := Lib.hid (fun W => rChar_any b hlt W)
            have hcs1 := Rct.ct_size b hlt
            go_wp2_with (fail)
            go_loopg [5] (256 - b) (fun gy v5 wr => ∃ k : Nat, b ≤ k ∧ k < 256 ∧ gy = 256 - k ∧ v5 = .int .i64 k ∧ Hid (Rct.fin p b = Rct.fin p k) ∧ St w wr [aCel w.heap.size 24 #[.int .u64 a0, .int .u64 a1, .int .u64 a2, .int .u64 a3]])
            case atStart => exact ⟨b, Nat.le_refl _, hlt, rfl, rfl, Lib.hid rfl, HST.out⟩
            case round =>
              clear HST z0 z1 z2 z3
              obtain ⟨k, hbk, hk, hgy, rfl, HF, hst⟩ := hrel
              have HGY := Lib.hid hgy
              clear hgy
              obtain ⟨z0, z1, z2, z3⟩ := Cs.at4 hst 0 rfl
              have HST := Lib.hid hst
              clear hst
              by_cases hk5 : k < 255
              · have hk5I : (k : Int) < 255 := by omega
                have hk5d : decide ((k : Int) < 255) = true := decide_eq_true hk5I
                have hk5e : decide (k < 255) = true := decide_eq_true hk5
                have HH := Lib.hid (fun W => HHA.out (k + 1) (by omega) W)
                rw [show ((k + 1 : Nat) : Int) = (k : Int) + 1 by omega] at HH
                have HFN := Lib.hid (Rct.fin_next (p := p) hk5)
                obtain ⟨pk, hpk⟩ : ∃ x, p (k + 1) = x := ⟨_, rfl⟩
                rw [hpk] at HH HFN
                clear hpk
                go_wp2_with (fail)
                go_at_call 9
                refine (HH.out _).mono ?_
                rintro e w3 ⟨rfl, hb3⟩
                have HST := Lib.hid (HST.out.call hb3)
                clear hb3 HH z0 z1 z2 z3
                cases pk
                · have HFE := Lib.hid (show Rct.fin p b = k by rw [HF.out, HFN.out, if_neg (by decide)])
                  have HC2 := Lib.hid (fun W => rChar_any k hk W)
                  have hcs2 := Rct.ct_size k hk
                  have HADD := Lib.hid (show Rct.runsK p (b + 1) = if b < k then (if b + 1 < k then out ++ Rct.ct b ++ ⟨#[45]⟩ else out ++ Rct.ct b) ++ Rct.ct k else out ++ Rct.ct b by rw [HE.out, HFE.out]; rfl)
                  obtain ⟨c1, hc1⟩ : ∃ c, Rct.ct b = c := ⟨_, rfl⟩
                  obtain ⟨c2, hc2⟩ : ∃ c, Rct.ct k = c := ⟨_, rfl⟩
                  rw [hc1] at HC1 hcs1 HADD
                  rw [hc2] at HC2 hcs2 HADD
                  have hadd1 : ∀ W, (Op.stringOp .add out c1).run Tryd.prog W = .ok (.string (out ++ c1)) W := fun W => run_string_add_sum W _ _ (by omega)
                  have hs1 : (out ++ c1).size ≤ 2308 := by rw [ByteArray.size_append]; omega
                  clear hc1 hc2
                  generalize hO1 : out ++ c1 = o1 at *
                  clear hO1
                  have hadd2 : ∀ W, (Op.stringOp .add o1 ⟨#[45]⟩).run Tryd.prog W = .ok (.string (o1 ++ ⟨#[45]⟩)) W := fun W => run_string_add_sum W _ _ (by show o1.size + 1 ≤ _; omega)
                  have hs2 : (o1 ++ ⟨#[45]⟩).size ≤ 2309 := by rw [ByteArray.size_append]; show o1.size + 1 ≤ _; omega
                  have hadd3 : ∀ W, (Op.stringOp .add o1 c2).run Tryd.prog W = .ok (.string (o1 ++ c2)) W := fun W => run_string_add_sum W _ _ (by omega)
                  generalize hO2 : o1 ++ ⟨#[45]⟩ = o2 at *
                  clear hO2
                  have hadd4 : ∀ W, (Op.stringOp .add o2 c2).run Tryd.prog W = .ok (.string (o2 ++ c2)) W := fun W => run_string_add_sum W _ _ (by omega)
                  generalize hO3 : o2 ++ c2 = o3 at *
                  generalize hO4 : o1 ++ c2 = o4 at *
                  have HO3 := Lib.hid hO3; have HO4 := Lib.hid hO4
                  clear hO3 hO4 hs1 hs2
                  go_wp2_with (fail)
                  go_at_call 75
                  refine (HC1.out _).mono ?_
                  rintro e w5 ⟨rfl, hb5⟩
                  have HST := Lib.hid (HST.out.call hb5)
                  clear hb5
                  by_cases h1 : b < k
                  · have h1I : (b : Int) < k := by omega
                    by_cases h2 : b + 1 < k
                    · have h2I : (b : Int) + 1 < k := by omega
                      have HEQ := Lib.hid (show Rct.runsK p (b + 1) = o3 by rw [HADD.out, if_pos h1, if_pos h2, HO3.out])
                      go_wp2_with (fail)
                      go_at_call 75
                      refine (HC2.out _).mono ?_
                      rintro e w6 ⟨rfl, hb6⟩
                      have HST := Lib.hid (HST.out.call hb6)
                      clear hb6
                      go_wp2
                      go_roundg (256 - (b + 1))
                      case measure => have := HGZ.out; omega
                      case rel => exact ⟨b + 1, by omega, rfl, by go_num, by rw [HEQ.out], HST.out⟩
                    · have h2I : ¬ (b : Int) + 1 < k := by omega
                      have HEQ := Lib.hid (show Rct.runsK p (b + 1) = o4 by rw [HADD.out, if_pos h1, if_neg h2, HO4.out])
                      go_wp2_with (fail)
                      go_at_call 75
                      refine (HC2.out _).mono ?_
                      rintro e w6 ⟨rfl, hb6⟩
                      have HST := Lib.hid (HST.out.call hb6)
                      clear hb6
                      go_wp2
                      go_roundg (256 - (b + 1))
                      case measure => have := HGZ.out; omega
                      case rel => exact ⟨b + 1, by omega, rfl, by go_num, by rw [HEQ.out], HST.out⟩
                  · have h1I : ¬ (b : Int) < k := by omega
                    have h2I : ¬ (b : Int) + 1 < k := by omega
                    have HEQ := Lib.hid (show Rct.runsK p (b + 1) = o1 by rw [HADD.out, if_neg h1])
                    go_wp2
                    go_roundg (256 - (b + 1))
                    case measure => have := HGZ.out; omega
                    case rel => exact ⟨b + 1, by omega, rfl, by go_num, by rw [HEQ.out], HST.out⟩
                · have HFE := Lib.hid (show Rct.fin p b = Rct.fin p (k + 1) by rw [HF.out, HFN.out, if_pos rfl])
                  go_wp2
                  go_roundg (256 - (k + 1))
                  case measure => have := HGY.out; omega
                  case rel => exact ⟨k + 1, by omega, by omega, rfl, by go_num, HFE, HST.out⟩
              · have hk5I : ¬ (k : Int) < 255 := by omega
                have HFE := Lib.hid (show Rct.fin p b = k by rw [HF.out, Rct.fin_last hk5])
                have HC2 := Lib.hid (fun W => rChar_any k hk W)
                have hcs2 := Rct.ct_size k hk
                have HADD := Lib.hid (show Rct.runsK p (b + 1) = if b < k then (if b + 1 < k then out ++ Rct.ct b ++ ⟨#[45]⟩ else out ++ Rct.ct b) ++ Rct.ct k else out ++ Rct.ct b by rw [HE.out, HFE.out]; rfl)
                obtain ⟨c1, hc1⟩ : ∃ c, Rct.ct b = c := ⟨_, rfl⟩
                obtain ⟨c2, hc2⟩ : ∃ c, Rct.ct k = c := ⟨_, rfl⟩
                rw [hc1] at HC1 hcs1 HADD
                rw [hc2] at HC2 hcs2 HADD
                have hadd1 : ∀ W, (Op.stringOp .add out c1).run Tryd.prog W = .ok (.string (out ++ c1)) W := fun W => run_string_add_sum W _ _ (by omega)
                have hs1 : (out ++ c1).size ≤ 2308 := by rw [ByteArray.size_append]; omega
                clear hc1 hc2
                generalize hO1 : out ++ c1 = o1 at *
                clear hO1
                have hadd2 : ∀ W, (Op.stringOp .add o1 ⟨#[45]⟩).run Tryd.prog W = .ok (.string (o1 ++ ⟨#[45]⟩)) W := fun W => run_string_add_sum W _ _ (by show o1.size + 1 ≤ _; omega)
                have hs2 : (o1 ++ ⟨#[45]⟩).size ≤ 2309 := by rw [ByteArray.size_append]; show o1.size + 1 ≤ _; omega
                have hadd3 : ∀ W, (Op.stringOp .add o1 c2).run Tryd.prog W = .ok (.string (o1 ++ c2)) W := fun W => run_string_add_sum W _ _ (by omega)
                generalize hO2 : o1 ++ ⟨#[45]⟩ = o2 at *
                clear hO2
                have hadd4 : ∀ W, (Op.stringOp .add o2 c2).run Tryd.prog W = .ok (.string (o2 ++ c2)) W := fun W => run_string_add_sum W _ _ (by omega)
                generalize hO3 : o2 ++ c2 = o3 at *
                generalize hO4 : o1 ++ c2 = o4 at *
                have HO3 := Lib.hid hO3; have HO4 := Lib.hid hO4
                clear hO3 hO4 hs1 hs2
                go_wp2_with (fail)
                go_at_call 75
                refine (HC1.out _).mono ?_
                rintro e w5 ⟨rfl, hb5⟩
                have HST := Lib.hid (HST.out.call hb5)
                clear hb5
                by_cases h1 : b < k
                · have h1I : (b : Int) < k := by omega
                  by_cases h2 : b + 1 < k
                  · have h2I : (b : Int) + 1 < k := by omega
                    have HEQ := Lib.hid (show Rct.runsK p (b + 1) = o3 by rw [HADD.out, if_pos h1, if_pos h2, HO3.out])
                    go_wp2_with (fail)
                    go_at_call 75
                    refine (HC2.out _).mono ?_
                    rintro e w6 ⟨rfl, hb6⟩
                    have HST := Lib.hid (HST.out.call hb6)
                    clear hb6
                    go_wp2
                    go_roundg (256 - (b + 1))
                    case measure => have := HGZ.out; omega
                    case rel => exact ⟨b + 1, by omega, rfl, by go_num, by rw [HEQ.out], HST.out⟩
                  · have h2I : ¬ (b : Int) + 1 < k := by omega
                    have HEQ := Lib.hid (show Rct.runsK p (b + 1) = o4 by rw [HADD.out, if_pos h1, if_neg h2, HO4.out])
                    go_wp2_with (fail)
                    go_at_call 75
                    refine (HC2.out _).mono ?_
                    rintro e w6 ⟨rfl, hb6⟩
                    have HST := Lib.hid (HST.out.call hb6)
                    clear hb6
                    go_wp2
                    go_roundg (256 - (b + 1))
                    case measure => have := HGZ.out; omega
                    case rel => exact ⟨b + 1, by omega, rfl, by go_num, by rw [HEQ.out], HST.out⟩
                · have h1I : ¬ (b : Int) < k := by omega
                  have h2I : ¬ (b : Int) + 1 < k := by omega
                  have HEQ := Lib.hid (show Rct.runsK p (b + 1) = o1 by rw [HADD.out, if_neg h1])
                  go_wp2
                  go_roundg (256 - (b + 1))
                  case measure => have := HGZ.out; omega
                  case rel => exact ⟨b + 1, by omega, rfl, by go_num, by rw [HEQ.out], HST.out⟩
          · have HE := Lib.hid (show Rct.runsK p (b + 1) = out by rw [HSU.out, HSD.out, h0d2]; rfl)
            go_wp2
            go_roundg (256 - (b + 1))
            case measure => have := HGZ.out; omega
            case rel => exact ⟨b + 1, by omega, rfl, by go_num, by rw [HE.out], HST.out⟩
    · obtain rfl : b = 256 := by omega
      go_wp2
      go_ret
      exact ⟨rfl, hst.bel⟩

set_option maxRecDepth 100000 in
set_option maxHeartbeats 4000000 in
theorem rSize_any (ws : List Nat) (hw : Dm.Ok4 ws) (w : World) :
    Calls Tryd.prog 50 #[Cs.clV ws] w fun e w' => e = .returned (.int .i64 ((Rct.lst (Dm.mem ws)).length : Nat)) ∧ Below w.heap.size w w' := by
  obtain ⟨a0, a1, a2, a3, rfl⟩ := Cs.okFour hw
  have HHA := Lib.hid (fun b hb W => Cs.has_words [a0, a1, a2, a3] hw b hb W)
  have HST := Lib.hid ((St.init w).alloc #[.int .u64 a0, .int .u64 a1, .int .u64 a2, .int .u64 a3] 24)
  rw [show Cs.clV [a0, a1, a2, a3] = .agg #[.int .u64 a0, .int .u64 a1, .int .u64 a2, .int .u64 a3] from rfl] at HHA ⊢
  generalize Dm.mem [a0, a1, a2, a3] = p at *
  clear hw
  go_enter Tryd.func50, Tryd.ntmps50
  go_wp2_with (fail)
  go_loopg [3, 4] 256 (fun gz v3 v4 wr => ∃ (b n : Nat), b ≤ 256 ∧ gz = 256 - b ∧ v4 = .int .i64 b ∧ v3 = .int .i64 n ∧ n ≤ b ∧ Hid (n = ((List.range b).filter p).length) ∧ St w wr [aCel w.heap.size 24 #[.int .u64 a0, .int .u64 a1, .int .u64 a2, .int .u64 a3]])
  case atStart => exact ⟨0, 0, by omega, rfl, rfl, rfl, by omega, Lib.hid rfl, HST.out⟩
  case round =>
    clear HST
    obtain ⟨b, n, hb, hgz, rfl, rfl, hnb, HN, hst⟩ := hrel
    have HGZ := Lib.hid hgz
    clear hgz
    by_cases hlt : b < 256
    · have hltI : (b : Int) < 256 := by omega
      obtain ⟨z0, z1, z2, z3⟩ := Cs.at4 hst 0 rfl
      have HST := Lib.hid hst
      clear hst
      have HH := Lib.hid (fun W => HHA.out b hlt W)
      have HSU := Lib.hid (show ((List.range (b + 1)).filter p).length = ((List.range b).filter p).length + (if p b = true then 1 else 0) by
        rw [List.range_succ, List.filter_append, List.length_append]
        cases h : p b <;> simp [h])
      generalize p b = pb at *
      go_wp2_with (fail)
      go_at_call 9
      refine (HH.out _).mono ?_
      rintro e w1 ⟨rfl, hb1⟩
      have HST := Lib.hid (HST.out.call hb1)
      clear hb1 HH z0 z1 z2 z3
      cases pb
      · go_wp2
        go_roundg (256 - (b + 1))
        case measure => have := HGZ.out; omega
        case rel => exact ⟨b + 1, n, by omega, rfl, by go_num, rfl, by omega, Lib.hid (by rw [HSU.out, HN.out]; rfl), HST.out⟩
      · go_wp2
        go_roundg (256 - (b + 1))
        case measure => have := HGZ.out; omega
        case rel => exact ⟨b + 1, n + 1, by omega, rfl, by go_num, by go_num, by omega, Lib.hid (by rw [HSU.out, HN.out]; rfl), HST.out⟩
    · have hbe : b = 256 := by omega
      have HE := Lib.hid (show n = (Rct.lst p).length by rw [HN.out, hbe]; rfl)
      have hge : ¬ (b : Int) < 256 := by omega
      clear hbe
      go_wp2
      go_ret
      exact ⟨by rw [← HE.out]; rfl, hst.bel⟩
end Go.Proofs.YtlgabpcddldelaaDoor
