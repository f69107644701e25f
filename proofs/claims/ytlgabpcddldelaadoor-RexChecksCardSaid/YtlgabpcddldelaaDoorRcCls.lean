/-
  classText of package rex: a class as text.
-/
import Derived.Test.YtlgabpcddldelaaDoorRcItems
namespace Go.Proofs.YtlgabpcddldelaaDoor
set_option linter.unusedVariables false
set_option linter.unusedSimpArgs false
open Go.ChangeShapes Go.WideShapes Go.ChangeAt Go.RowKit

set_option maxRecDepth 100000 in
set_option maxHeartbeats 4000000 in
theorem rxCls_any (ws : List Nat) (hw : Dm.Ok4 ws) (w : World) (hT : Tz.Tab w) :
    Calls Tryd.prog 76 #[Cs.clV ws] w fun e w' => e = .returned (.string (Rct.cls (Dm.mem ws))) ∧ Below w.heap.size w w' := by
  have HT := Lib.hid hT
  obtain ⟨a0, a1, a2, a3, rfl⟩ := Cs.okFour hw
  have HTB := Lib.hid (fun W (h : Below w.heap.size w W) => (show Tz.Tab W from fun j hj => bkeep h (hT j hj)))
  have HB := Lib.hid (fun W (h : Below w.heap.size w W) => clBytes_any [a0, a1, a2, a3] hw W (HTB.out W h))
  have HCN := Lib.hid (fun W => clCount_any [a0, a1, a2, a3] hw W)
  have HHA := Lib.hid (fun W => Cs.phas_words [a0, a1, a2, a3] hw 10 (by decide) W)
  have HIT := Lib.hid (fun W (h : Below w.heap.size w W) => rxItems_any [a0, a1, a2, a3] hw W (HTB.out W h))
  have hinv : Dm.Ok4 (Cs.inv [a0, a1, a2, a3]) := by rw [Cs.inv_eq hw]; exact Cs.ok_of _
  have HNT := Lib.hid (fun W => clNot_any [a0, a1, a2, a3] hw W)
  have HIN := Lib.hid (fun W (h : Below w.heap.size w W) => rxItems_any (Cs.inv [a0, a1, a2, a3]) hinv W (HTB.out W h))
  rw [show Rct.runs (Dm.mem (Cs.inv [a0, a1, a2, a3])) = Rct.runs (fun b => !Dm.mem [a0, a1, a2, a3] b) from Rct.runs_congr fun x hx => by rw [Cs.inv_eq hw, Cs.mem_of hx]] at HIN
  obtain ⟨i0, i1, i2, i3, hi⟩ := Cs.okFour hinv
  rw [hi, show Cs.clV [i0, i1, i2, i3] = .agg #[.int .u64 i0, .int .u64 i1, .int .u64 i2, .int .u64 i3] from rfl] at HNT HIN
  rw [Cs.bytes_all] at HB HCN
  have htx := Rct.txt_of (Dm.mem [a0, a1, a2, a3])
  rw [show (List.range 256).filter (Dm.mem [a0, a1, a2, a3]) = Rct.lst (Dm.mem [a0, a1, a2, a3]) from rfl] at HB HCN
  obtain ⟨S, hS⟩ : ∃ S, strOfNums ((Rct.lst (Dm.mem [a0, a1, a2, a3])).map Cs.bI) = S := ⟨_, rfl⟩
  rw [hS] at HB htx
  clear hS hi
  have HST := Lib.hid ((St.init w).alloc #[.int .u64 a0, .int .u64 a1, .int .u64 a2, .int .u64 a3] 24)
  rw [show Cs.clV [a0, a1, a2, a3] = .agg #[.int .u64 a0, .int .u64 a1, .int .u64 a2, .int .u64 a3] from rfl] at HB HCN HHA HIT HNT ⊢
  generalize Dm.mem [a0, a1, a2, a3] = p at *
  have HTX := Lib.hid htx
  have HZ := Lib.hid htx.size
  have hlen := Rct.lst_len (p := p)
  obtain ⟨R, hR⟩ : ∃ R, Rct.cls p = R := ⟨_, rfl⟩
  rw [hR]
  unfold Rct.cls at hR
  have hr1 := Rct.runs_size (p := p)
  have hr2 := Rct.runs_size (p := fun b => !p b)
  have HONE := Lib.hid (fun h => Rct.runs_one (p := p) h)
  have HGET := Lib.hid (fun (h : (Rct.lst p).length = 1) => (show ∃ hs : 0 < S.size, (((S[0]'hs).toNat : Nat) : Int) = (Rct.nth p 0 : Int) ∧ Rct.nth p 0 < 256 from ⟨by rw [htx.size]; omega, htx.get 0 _, (Rct.nth_in (by omega)).1⟩))
  clear hT hw htx hinv
  have hadd1 : ∀ W, (Op.stringOp .add ⟨#[91, 94]⟩ (Rct.runs fun b => !p b)).run Tryd.prog W = .ok (.string (⟨#[91, 94]⟩ ++ Rct.runs fun b => !p b)) W := fun W => run_string_add_sum W _ _ (by show 2 + _ ≤ _; omega)
  have hadd2 : ∀ W, (Op.stringOp .add (⟨#[91, 94]⟩ ++ Rct.runs fun b => !p b) ⟨#[93]⟩).run Tryd.prog W = .ok (.string (⟨#[91, 94]⟩ ++ (Rct.runs fun b => !p b) ++ ⟨#[93]⟩)) W := fun W => run_string_add_sum W _ _ (by rw [ByteArray.size_append]; show 2 + _ + 1 ≤ _; omega)
  have hadd3 : ∀ W, (Op.stringOp .add ⟨#[91]⟩ (Rct.runs p)).run Tryd.prog W = .ok (.string (⟨#[91]⟩ ++ Rct.runs p)) W := fun W => run_string_add_sum W _ _ (by show 1 + _ ≤ _; omega)
  have hadd4 : ∀ W, (Op.stringOp .add (⟨#[91]⟩ ++ Rct.runs p) ⟨#[93]⟩).run Tryd.prog W = .ok (.string (⟨#[91]⟩ ++ Rct.runs p ++ ⟨#[93]⟩)) W := fun W => run_string_add_sum W _ _ (by rw [ByteArray.size_append]; show 1 + _ + 1 ≤ _; omega)
  generalize (Rct.runs fun b => !p b) = rN at *
  generalize Rct.runs p = rP at *
  generalize hn : (Rct.lst p).length = n at *
  clear hn
  generalize p 10 = b10 at *
  go_enter Tryd.func76, Tryd.ntmps76
  go_wp2_with (fail)
  go_at_call 20
  refine (HCN.out _).mono ?_
  rintro e w1 ⟨rfl, hb1⟩
  have HST := Lib.hid (HST.out.call hb1)
  obtain ⟨z0, z1, z2, z3⟩ := Cs.at4 HST.out 0 rfl
  clear hb1 HCN
  by_cases h1 : n = 1
  · subst h1
    rw [if_pos rfl, HONE.out rfl] at hR
    subst hR
    obtain ⟨hs, g0, hlt⟩ := HGET.out rfl
    have hsI : (0 : Int) < S.size := by omega
    have HCH := Lib.hid (fun W => rxChar_any (Rct.nth p 0) hlt W)
    clear HONE HGET hadd1 hadd2 hadd3 hadd4
    go_wp2_with (fail)
    go_at_call 21
    refine (HB.out _ HST.out.bel).mono ?_
    rintro e w2 ⟨rfl, hb2⟩
    have HST := Lib.hid (HST.out.call hb2)
    clear hb2 z0 z1 z2 z3
    go_wp2_with (fail)
    go_at_call 90
    refine (HCH.out _).mono ?_
    rintro e w3 ⟨rfl, hb3⟩
    have HST := Lib.hid (HST.out.call hb3)
    clear hb3
    go_wp2
    go_ret
    exact ⟨rfl, HST.out.bel⟩
  · have e1 : ((n : Int) == 1) = false := by rw [beq_eq_false_iff_ne]; omega
    rw [if_neg h1] at hR
    clear HONE HGET h1
    by_cases h2 : n = 255
    · subst h2
      go_wp2_with (fail)
      go_at_call 13
      refine (HHA.out _).mono ?_
      rintro e w2 ⟨rfl, hb2⟩
      have HST := Lib.hid (HST.out.call hb2)
      clear hb2 z0 z1 z2 z3
      obtain ⟨z0, z1, z2, z3⟩ := Cs.at4 HST.out 0 rfl
      cases b10
      · rw [if_pos (by simp)] at hR
        subst hR
        go_wp2
        go_ret
        exact ⟨rfl, HST.out.bel⟩
      · rw [if_neg (by simp), if_pos (by decide)] at hR
        have HR := Lib.hid hR
        clear hR
        go_wp2_with (fail)
        go_at_call 18
        refine (HNT.out _).mono ?_
        rintro e w3 ⟨rfl, hb3⟩
        have HST := Lib.hid (HST.out.call hb3)
        clear hb3 z0 z1 z2 z3
        go_wp2_with (fail)
        go_at_call 91
        refine (HIN.out _ HST.out.bel).mono ?_
        rintro e w4 ⟨rfl, hb4⟩
        have HST := Lib.hid (HST.out.call hb4)
        clear hb4
        go_wp2
        go_ret
        exact ⟨by rw [← HR.out]; rfl, HST.out.bel⟩
    · have e2 : ((n : Int) == 255) = false := by rw [beq_eq_false_iff_ne]; omega
      rw [if_neg (by omega)] at hR
      by_cases h3 : 128 < n
      · have h3I : (128 : Int) < n := by omega
        rw [if_pos h3] at hR
        have HR := Lib.hid hR
        clear hR h2
        go_wp2_with (fail)
        go_at_call 18
        refine (HNT.out _).mono ?_
        rintro e w3 ⟨rfl, hb3⟩
        have HST := Lib.hid (HST.out.call hb3)
        clear hb3 z0 z1 z2 z3
        go_wp2_with (fail)
        go_at_call 91
        refine (HIN.out _ HST.out.bel).mono ?_
        rintro e w4 ⟨rfl, hb4⟩
        have HST := Lib.hid (HST.out.call hb4)
        clear hb4
        go_wp2
        go_ret
        exact ⟨by rw [← HR.out]; rfl, HST.out.bel⟩
      · have h3I : ¬ (128 : Int) < n := by omega
        rw [if_neg h3] at hR
        have HR := Lib.hid hR
        clear hR h2
        go_wp2_with (fail)
        go_at_call 91
        refine (HIT.out _ HST.out.bel).mono ?_
        rintro e w4 ⟨rfl, hb4⟩
        have HST := Lib.hid (HST.out.call hb4)
        clear hb4
        go_wp2
        go_ret
        exact ⟨by rw [← HR.out]; rfl, HST.out.bel⟩
end Go.Proofs.YtlgabpcddldelaaDoor
