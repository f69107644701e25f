/-
  The closures of the reference's Dfa: least, mark.
-/
import Derived.Test.YtlgabpcddldelaaDmNxt
import Derived.Test.YtlgabpcddldelaaLlEq
import Derived.Deep.QuietTactic
import Derived.BigQuiet
import Derived.Deep.LoopGhost
namespace Go.Proofs.Ytlgabpcddldelaa
set_option linter.unusedVariables false
set_option linter.unusedSimpArgs false
open Go.ChangeShapes Go.WideShapes Go.ChangeAt Go.RowKit

namespace Dm
def ofN (x : Nat) : Int := x
theorem ofN_get (l : List Nat) (k : Nat) : (l.map ofN).getD k 0 = ((l.getD k 0 : Nat) : Int) := by
  by_cases h : k < l.length
  · simp [List.getD, List.getElem?_eq_getElem h, ofN]
  · simp [List.getD, List.getElem?_eq_none (Nat.le_of_not_lt h)]
def hitL (P : Pn) (l : List Nat) (i : Nat) : Bool := l.any fun y => decide (P.ru.getD y 0 = (i : Int)) && P.la.getD y false
theorem hitL_nil (P : Pn) (l : List Nat) (i : Nat) : hitL P (l.take 0) i = false := rfl
theorem hitL_succ (P : Pn) (l : List Nat) (i k : Nat) (h : k < l.length) : hitL P (l.take (k + 1)) i = (hitL P (l.take k) i || (decide (P.ru.getD (l.getD k 0) 0 = (i : Int)) && P.la.getD (l.getD k 0) false)) := by
  unfold hitL
  have e : l.getD k 0 = l[k] := by simp [List.getD, List.getElem?_eq_getElem h]
  rw [e, List.take_succ_eq_append_getElem h, List.any_append, List.any_cons, List.any_nil, Bool.or_false]
def hit (P : Pn) (l : List Nat) (e : Bool) (i : Nat) : Bool := (e && P.em.getD i false) || hitL P l i
theorem least_none {P : Pn} {l : List Nat} {e : Bool} (h : ∀ i, i < P.em.length → hit P l e i = false) : least P l e = -1 := by
  have : (List.range P.em.length).find? (fun (i : Nat) => (e && P.em.getD i false) || l.any fun y => decide (P.ru.getD y 0 = (i : Int)) && P.la.getD y false) = none := by
    rw [List.find?_eq_none]
    intro x hx
    have := h x (List.mem_range.1 hx)
    unfold hit hitL at this
    rw [this]; simp
  unfold least
  rw [this]
theorem least_some {P : Pn} {l : List Nat} {e : Bool} {i : Nat} (hi : i < P.em.length) (h : hit P l e i = true) (hj : ∀ j, j < i → hit P l e j = false) : least P l e = (i : Int) := by
  have : (List.range P.em.length).find? (fun (i : Nat) => (e && P.em.getD i false) || l.any fun y => decide (P.ru.getD y 0 = (i : Int)) && P.la.getD y false) = some i := by
    rw [List.find?_range_eq_some]
    refine ⟨h, List.mem_range.2 hi, fun j hji => ?_⟩
    have := hj j hji
    unfold hit hitL at this
    rw [this]; rfl
  unfold least
  rw [this]
end Dm
attribute [irreducible] Dm.hitL

set_option maxRecDepth 100000 in
set_option maxHeartbeats 4000000 in
theorem rLeast_any (P : Dm.Pn) (hg : Dm.Good P) (vc vr vi vo vl ve v : Value) (l : List Nat) (hl : ∀ x ∈ l, x < P.cl.length) (e : Bool) (gp : Nat) (w0 w : World) (F : Nat → Prop) (hF : ∀ b, F b → b < w0.heap.size) (hin : Dm.In F w0 vc vr vi vo vl ve P) (μ : List Asrt) (h : St w0 w (aCel gp 27 #[vc, vr, vi, vo, vl, ve] :: μ)) (hv : Row1 Ll.iV 0 w v (l.map Dm.ofN)) :
    Calls Try.prog 43 #[v, .bool e, .pointer (some ⟨gp, 0, none⟩)] w fun e' w' => e' = .returned (.int .i64 (Dm.least P l e)) ∧ Below w.heap.size w w' := by
  obtain ⟨al, bl, ol, cl, rfl, k1, k3, k4⟩ := hv
  rw [List.length_map] at k1 k3 k4 ⊢
  obtain ⟨ar, br, or_, cr, rfl, -, r3, r4⟩ := slInt hin.h2
  obtain ⟨aa, ba, oa, ca, rfl, -, a3, a4⟩ := slBool hin.h5
  obtain ⟨ae, be, oe, ce, rfl, -, e3, e4⟩ := slBool hin.h6
  have K3 := Lib.hid k3; have K4 := Lib.hid k4; have R3 := Lib.hid r3; have R4 := Lib.hid r4; have A3 := Lib.hid a3; have A4 := Lib.hid a4; have E3 := Lib.hid e3; have E4 := Lib.hid e4
  have HL := Lib.hid hl
  have HG := Lib.hid hg
  have HST := Lib.hid h
  have HB0 := Lib.hid (Below.refl w.heap.size w)
  have hel : (P.em.length : Int) ≤ 20 := by have := hg.he2; omega
  have hll : (l.length : Int) ≤ 140737488355328 := by omega
  clear hin hF hl hg h k1 k3 k4 r3 r4 a3 a4 e3 e4
  obtain ⟨Z, hZ⟩ : ∃ Z, Dm.least P l e = Z := ⟨_, rfl⟩
  rw [hZ]
  have HZ := Lib.hid hZ
  clear hZ
  go_enter Try.func43, Try.ntmps43
  go_wp2_with (fail)
  go_loopg [6] P.em.length (fun gz v6 wr => ∃ i : Nat, i ≤ P.em.length ∧ gz = P.em.length - i ∧ v6 = .int .i64 i ∧ Hid (∀ j, j < i → Dm.hit P l e j = false) ∧ Below w.heap.size w wr ∧ St w0 wr (aCel gp 27 #[vc, .slice ar P.ru.length cr, vi, vo, .slice aa P.la.length ca, .slice ae P.em.length ce] :: μ))
  case atStart => exact ⟨0, by omega, by omega, rfl, Lib.hid (fun j hj => by omega), HB0.out, HST.out⟩
  case round =>
    clear HB0 HST
    obtain ⟨i, hi, hgz, rfl, HH, hB, hst⟩ := hrel
    have HGZ := Lib.hid hgz
    clear hgz
    have x1 := (hst.nth 0 rfl).celAt (i := 1) (v := .slice ar P.ru.length cr) rfl
    have x4 := (hst.nth 0 rfl).celAt (i := 4) (v := .slice aa P.la.length ca) rfl
    have x5 := (hst.nth 0 rfl).celAt (i := 5) (v := .slice ae P.em.length ce) rfl
    by_cases hlt : i < P.em.length
    · have hltI : (i : Int) < P.em.length := by omega
      obtain ⟨rfl, -, -⟩ := E3.out (by omega)
      have c0 := bkeep hst.bel (E4.out i hlt)
      obtain ⟨B1, hB1⟩ : ∃ B1, P.em.getD i false = B1 := ⟨_, rfl⟩
      rw [hB1] at c0
      have HB1 := Lib.hid hB1
      clear hB1
      have HST := Lib.hid hst
      have HB := Lib.hid hB
      clear hst hB
      rename World => wo
      obtain ⟨A0, hA0⟩ : ∃ A0, (e && B1) = A0 := ⟨_, rfl⟩
      have HIT := Lib.hid (show Dm.hit P l e i = (A0 || Dm.hitL P l i) by unfold Dm.hit; rw [HB1.out, hA0])
      have HA0 := Lib.hid hA0
      clear hA0
      cases e
      all_goals
        go_wp2_with (fail)
        go_loopg [7, 8] l.length (fun gz v7 v8 wr => ∃ k : Nat, k ≤ l.length ∧ gz = l.length - k ∧ v8 = .int .i64 k ∧ v7 = .bool (A0 || Dm.hitL P (l.take k) i) ∧ Below w.heap.size w wr ∧ St w0 wr (aCel gp 27 #[vc, .slice ar P.ru.length cr, vi, vo, .slice aa P.la.length ca, .slice (some ⟨be, oe, none⟩) P.em.length ce] :: μ))
        case atStart => exact ⟨0, by omega, by omega, rfl, by rw [Dm.hitL_nil, Bool.or_false, ← HA0.out]; first | rfl | simp, HB.out, HST.out⟩
        case round =>
          clear x1 x4 x5 c0
          clear HB HST
          obtain ⟨k, hk, hgz, rfl, rfl, hB, hst⟩ := hrel
          have HGK := Lib.hid hgz
          clear hgz
          have x1 := (hst.nth 0 rfl).celAt (i := 1) (v := .slice ar P.ru.length cr) rfl
          have x4 := (hst.nth 0 rfl).celAt (i := 4) (v := .slice aa P.la.length ca) rfl
          by_cases hlk : k < l.length
          · have hlkI : (k : Int) < l.length := by omega
            have HHS := Lib.hid (Dm.hitL_succ P l i k hlk)
            have hb := K4.out k hlk
            rw [Dm.ofN_get] at hb
            unfold Ll.iV at hb
            have hb := bkeep hB hb
            have hym := HL.out (l.getD k 0) (by rw [show l.getD k 0 = l[k] by simp [List.getD, List.getElem?_eq_getElem hlk]]; exact List.getElem_mem hlk)
            obtain rfl := K3.out (by omega)
            obtain ⟨A, hA⟩ : ∃ A, (A0 || Dm.hitL P (l.take k) i) = A := ⟨_, rfl⟩
            have HA := Lib.hid hA
            rw [hA]
            clear hA
            generalize l.getD k 0 = y at *
            have hyr : y < P.ru.length := by rw [HG.out.hru]; exact hym
            have hya : y < P.la.length := by rw [HG.out.hla]; exact hym
            obtain ⟨rfl, -, -⟩ := R3.out (by omega)
            obtain ⟨rfl, -, -⟩ := A3.out (by omega)
            have d0 := bkeep hst.bel (R4.out y hyr).1
            have d1 := bkeep hst.bel (A4.out y hya)
            generalize P.ru.getD y 0 = r at *
            generalize P.la.getD y false = L at *
            have hyrI : (y : Int) < P.ru.length := by omega
            have hyaI : (y : Int) < P.la.length := by omega
            have HSN := Lib.hid (fun n => hst.drewN n)
            have HBN := Lib.hid (fun n => below_drewN hB n)
            clear hst hB
            cases A
            · by_cases hri : r = (i : Int)
              · have hrb : ((r : Int) == (i : Int)) = true := by rw [beq_iff_eq]; exact hri
                have HRI := Lib.hid hri
                clear hri
                go_wp2
                go_quiet (fail)
                go_wp2
                go_roundg (l.length - (k + 1))
                case measure => have := HGK.out; omega
                case rel => exact ⟨k + 1, by omega, rfl, by go_num, by rw [HHS.out, ← Bool.or_assoc, HA.out, decide_eq_true HRI.out]; simp, HBN.out _, HSN.out _⟩
              · have hrb : ((r : Int) == (i : Int)) = false := by rw [beq_eq_false_iff_ne]; exact hri
                have HRI := Lib.hid hri
                clear hri
                go_wp2
                go_quiet (fail)
                go_wp2
                go_roundg (l.length - (k + 1))
                case measure => have := HGK.out; omega
                case rel => exact ⟨k + 1, by omega, rfl, by go_num, by rw [HHS.out, ← Bool.or_assoc, HA.out, decide_eq_false HRI.out]; rfl, HBN.out _, HSN.out _⟩
            · go_wp2
              go_quiet (fail)
              go_wp2
              go_roundg (l.length - (k + 1))
              case measure => have := HGK.out; omega
              case rel => exact ⟨k + 1, by omega, rfl, by go_num, by rw [HHS.out, ← Bool.or_assoc, HA.out, Bool.true_or], HBN.out _, HSN.out _⟩
          · have hkl : k = l.length := by omega
            rw [hkl, List.take_length]
            have hki : ¬ ((k : Int) < l.length) := by omega
            have hkI : ¬ ((l.length : Int) < l.length) := by omega
            obtain ⟨A, hA⟩ : ∃ A, (A0 || Dm.hitL P l i) = A := ⟨_, rfl⟩
            rw [hA] at HIT ⊢
            have HST := Lib.hid hst
            have HB := Lib.hid hB
            clear hA hkl hst hB
            cases A
            · go_wp2
              go_roundg (P.em.length - (i + 1))
              case measure => have := HGZ.out; omega
              case rel => exact ⟨i + 1, by omega, rfl, by go_num, Lib.hid (fun j hj => by
                rcases Nat.lt_succ_iff_lt_or_eq.1 hj with h | h
                · exact HH.out j h
                · rw [h]; exact HIT.out), HB.out, HST.out⟩
            · have HR := Lib.hid (Dm.least_some hlt HIT.out HH.out)
              go_wp2
              go_ret
              exact ⟨by rw [← HZ.out, HR.out]; rfl, HB.out⟩
    · have hie : i = P.em.length := by omega
      have hge : ¬ ((i : Int) < P.em.length) := by omega
      have HR := Lib.hid (Dm.least_none (P := P) (l := l) (e := e) (fun j hj => HH.out j (by omega)))
      have HB := Lib.hid hB
      clear hie hst hB
      go_wp2
      go_ret
      exact ⟨by rw [← HZ.out, HR.out]; rfl, HB.out⟩
end Go.Proofs.Ytlgabpcddldelaa
