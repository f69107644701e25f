/-
  least of package class: the least byte of a class that is not empty.
-/
import Derived.Test.YtlgabpcddldelaaDoorClsBytes
import Derived.Test.YtlgabpcddldelaaDoorCp
namespace Go.Proofs.YtlgabpcddldelaaDoor
set_option linter.unusedVariables false
set_option linter.unusedSimpArgs false
open Go.ChangeShapes Go.WideShapes Go.ChangeAt Go.RowKit

namespace Cp
theorem lo_at {ws : List Nat} (hw : Dm.Ok4 ws) {i : Nat} (hi : i < 4) (hz : ∀ j, j < i → ws.getD j 0 = 0) (h0 : ws.getD i 0 ≠ 0) : lo ws = 64 * i + Lib.ctz 64 (ws.getD i 0) := by
  obtain ⟨h1, h2, h3, _⟩ := Cs.low_bit h0 (hw.lt i)
  refine lo_is (by omega) ?_ fun c hc => ?_
  · unfold Dm.mem
    rw [show (64 * i + Lib.ctz 64 (ws.getD i 0)) / 64 = i by omega, show (64 * i + Lib.ctz 64 (ws.getD i 0)) % 64 = Lib.ctz 64 (ws.getD i 0) by omega]
    exact h2
  · unfold Dm.mem
    by_cases hj : c / 64 < i
    · rw [hz _ hj]; simp
    · have e : c / 64 = i := by omega
      rw [e]
      exact h3 _ (by omega)
theorem none_of {ws : List Nat} (hz : ∀ j, j < 4 → ws.getD j 0 = 0) {x : Nat} (hx : x < 256) : Dm.mem ws x = false := by
  unfold Dm.mem
  rw [hz _ (by omega)]; simp
end Cp

set_option maxRecDepth 100000 in
set_option maxHeartbeats 1600000 in
theorem clLeast_any (ws : List Nat) (hws : Dm.Ok4 ws) (x0 : Nat) (hx : x0 < 256) (hm : Dm.mem ws x0 = true) (w : World) (hT : Tz.Tab w) :
    Calls Tryd.prog 43 #[Cs.clV ws] w fun e w' => e = .returned (.int .i64 (Cp.lo ws)) ∧ Below w.heap.size w w' := by
  have HT := Lib.hid hT
  have HW := Lib.hid hws
  have HX := Lib.hid hx
  have HM := Lib.hid hm
  have HST := Lib.hid ((St.init w).alloc (Cs.clA ws) 24)
  have HS4 := Lib.hid (Cs.clA_size hws)
  obtain ⟨Lo, hLo⟩ : ∃ L, Cp.lo ws = L := ⟨_, rfl⟩
  rw [hLo]
  have HL := Lib.hid hLo
  clear hT hws hx hm hLo
  unfold Cs.clV
  go_enter Tryd.func43, Tryd.ntmps43
  go_wp2_with (refine St.rowIn rfl 24 (.tmp 1) rfl w.heap.size rfl _ HST.out 0 rfl Tryd.underlying24 rfl (by rw [HS4.out]; exact Cs.clInfo) ?_)
  go_loopg [6] 4 (fun gz v6 wr => ∃ (i : Nat), i ≤ 4 ∧ gz = 4 - i ∧ v6 = .int .i64 i ∧ Hid (∀ j, j < i → ws.getD j 0 = 0) ∧ St w wr [aCel w.heap.size 24 (Cs.clA ws)])
  case atStart => exact ⟨0, by omega, by omega, rfl, Lib.hid fun j hj => by omega, HST.out⟩
  case round =>
    clear HST
    obtain ⟨i, hi, hgz, rfl, HZ, hst⟩ := hrel
    have HGZ := Lib.hid hgz
    clear hgz
    by_cases hlt : i < 4
    · have hltI : (i : Int) < 4 := by omega
      have hidx : ∀ W, (Instr.index 24 (.agg (Cs.clA ws)) (.int .i64 i)).run Tryd.prog W = .ok (.int .u64 (ws.getD i 0 : Nat)) W := fun W => Cs.run_index Tryd.underlying24 Tryd.underlying22 (by kernel_rfl) ws HW.out.len i hlt W
      have HLO := Lib.hid (fun h => HL.out.symm.trans (Cp.lo_at HW.out hlt HZ.out h))
      have hx0 := HW.out.lt i
      have HZ2 := Lib.hid (fun (h : ws.getD i 0 = 0) (j : Nat) (hj : j < i + 1) => (show ws.getD j 0 = 0 by by_cases g : j < i; exact HZ.out j g; rw [show j = i by omega]; exact h))
      generalize ws.getD i 0 = x at *
      have HST := Lib.hid hst
      clear hst
      by_cases h0 : x = 0
      · have hz : ((x : Int) != 0) = false := by rw [bne_eq_false_iff_eq]; omega
        have HZ3 := Lib.hid (HZ2.out h0)
        clear h0 hx0
        go_wp2
        go_roundg (4 - (i + 1))
        case measure => have := HGZ.out; omega
        case rel => exact ⟨i + 1, by omega, rfl, by go_num, HZ3, HST.out⟩
      · have hz : ((x : Int) != 0) = true := by rw [bne_iff_ne]; omega
        have HTZ := Lib.hid (tz64_any x hx0 h0 wr (fun j hj => bkeep HST.out.bel (HT.out j hj)))
        have hctz := (Cs.low_bit h0 hx0).1
        have hlo := HLO.out h0
        generalize Lib.ctz 64 x = k at *
        have hor : bits .or .i64 ((i : Int) * 64) (k : Int) = ((Lo : Nat) : Int) := by rw [Int.mul_comm, hlo]; exact Cs.or64 i k hctz hlt
        clear h0 hx0 hlo
        go_wp2_with (fail)
        go_at_call 42
        refine (HTZ.out).mono ?_
        rintro e w6 ⟨rfl, rfl⟩
        go_wp2
        go_ret
        exact ⟨rfl, HST.out.bel⟩
    · exact absurd HM.out (by rw [Cp.none_of (fun j hj => HZ.out j (by omega)) HX.out]; simp)
end Go.Proofs.YtlgabpcddldelaaDoor
