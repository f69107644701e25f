/-
  Parts of the reference.
-/
import Derived.Test.YtlgabpcddldelaaDoorClsAlike
namespace Go.Proofs.YtlgabpcddldelaaDoor
set_option linter.unusedVariables false
set_option linter.unusedSimpArgs false
open Go.ChangeShapes Go.WideShapes Go.ChangeAt Go.RowKit

theorem Cs.clE : ET Tryd.prog 36 24 4 32 := ET.mk' Tryd.underlying36 (z := .agg #[.int .u64 0, .int .u64 0, .int .u64 0, .int .u64 0]) (by kernel_rfl) rfl (by decide)
theorem Cs.cl_one (ws : List Nat) : ∀ q ∈ (Cs.clV ws).cells.toList, q.oneCell' = true := by
  intro q hq
  simp only [Cs.clV, Value.cells, Cs.clA, List.mem_map] at hq
  obtain ⟨x, _, rfl⟩ := hq
  rfl

theorem St.toBack2 {w0 w : World} {μ ν : List Asrt} (h : St w0 w (ν ++ μ)) : St w0 w (μ ++ ν) := h.perm List.perm_append_comm
theorem Fc.callC2 {c : Nat} {fn : Func} (hf : Tryd.prog.funcs[c]? = some fn) (hn : (fn.name == "runtime.NumGoroutine") = false) (hb : fn.body.isNone = false) (args : Array Value) (W : World) : (callFunc c args).run Tryd.prog W = .ok (.enter c args) W := by
  have hn2 : ¬ fn.name = "runtime.NumGoroutine" := fun e => by rw [e] at hn; simp at hn
  have hb2 : ¬ fn.body = none := fun e => by rw [e] at hb; cases hb
  simp [callFunc, go_sem, hf, hn2, hb2]

namespace Cp
def outK (L : List (List Nat)) (n : Nat) : List (List Nat) := ((List.range n).filter (first L)).map (blk L)
theorem outK_zero (L : List (List Nat)) : outK L 0 = [] := rfl
theorem outK_succ (L : List (List Nat)) (n : Nat) : outK L (n + 1) = if first L n = true then outK L n ++ [blk L n] else outK L n := by
  unfold outK
  rw [List.range_succ, List.filter_append, List.map_append]
  cases e : first L n <;> simp [e]
theorem outK_all (L : List (List Nat)) : outK L 256 = ref L := rfl
theorem outK_len (L : List (List Nat)) (n : Nat) : (outK L n).length ≤ n := by
  unfold outK
  rw [List.length_map]
  exact Nat.le_trans (List.length_filter_le _ _) (by simp)
def firstK (L : List (List Nat)) (b k : Nat) : Bool := (List.range k).all fun c => !alike L b c
theorem firstK_succ (L : List (List Nat)) (b k : Nat) : firstK L b (k + 1) = (firstK L b k && !alike L b k) := by
  unfold firstK
  rw [List.range_succ, List.all_append]; simp
theorem firstK_false {L : List (List Nat)} {b k : Nat} (hk : k ≤ b) (h : firstK L b k = false) : first L b = false := by
  cases e : first L b
  · rfl
  · rw [← h]; unfold firstK; symm
    rw [List.all_eq_true]
    intro c hc
    have := List.mem_range.1 hc
    rw [first_iff.1 e c (by omega)]; rfl
end Cp

set_option maxRecDepth 100000 in
set_option maxHeartbeats 4000000 in
theorem rParts_any (L : List (List Nat)) (ao : Option Addr) (b off cap : Nat) (hl : L.length ≤ 40) (w : World) (hA : Cs.At w ao b off L) :
    Calls Tryd.prog 24 #[.slice ao L.length cap] w fun e w' => ∃ v, e = .returned v ∧ St w w' [aOwn 24 4 v ((Cp.ref L).map Cs.clV)] := by
  have HA := Lib.hid hA
  have hst := ((((St.init w).alloc #[.slice ao L.length cap] 36).nilOwn 24 4).alloc #[.int .i64 0] 3)
  simp only [World.size_alloc] at hst
  have HST := Lib.hid hst
  clear hA hst
  go_enter Tryd.func24, Tryd.ntmps24
  go_wp2_with (fail)
  go_loopg [3, 4] 256 (fun gz v3 v4 wr => ∃ (n gB : Nat) (vo : Value), n ≤ 256 ∧ gz = 256 - n ∧ v4 = .pointer (some ⟨gB, 0, none⟩) ∧ vo = v3 ∧ St w wr [aCel gB 3 #[.int .i64 n], aCel w.heap.size 36 #[.slice ao L.length cap], aOwn 24 4 vo ((Cp.outK L n).map Cs.clV)])
  case atStart => exact ⟨0, _, _, by omega, by omega, rfl, rfl, HST.out.get3.get2⟩
  case round =>
    clear HST
    obtain ⟨n, gB, vo, hn, hgz, rfl, rfl, hst⟩ := hrel
    have HGZ := Lib.hid hgz
    clear hgz
    have f0 := (hst.nth 0 rfl).celAt (i := 0) (v := .int .i64 n) rfl
    by_cases hlt : n < 256
    · have hltI : (n : Int) < 256 := by omega
      have HST := Lib.hid hst
      clear hst
      go_wp2_with (fail)
      go_loopg [6, 7] n (fun gy v6 v7 wr2 => ∃ k : Nat, k ≤ n ∧ gy = n - k ∧ v7 = .int .i64 k ∧ v6 = .bool (Cp.firstK L n k) ∧ St w wr2 [aCel gB 3 #[.int .i64 n], aCel w.heap.size 36 #[.slice ao L.length cap], aOwn 24 4 vo ((Cp.outK L n).map Cs.clV)])
      case atStart => exact ⟨0, by omega, by omega, rfl, rfl, HST.out⟩
      case round =>
        clear HST f0
        obtain ⟨k, hk, hgy, rfl, rfl, hst⟩ := hrel
        have HGY := Lib.hid hgy
        clear hgy
        have f0 := (hst.nth 0 rfl).celAt (i := 0) (v := .int .i64 n) rfl
        have HFS := Lib.hid (Cp.firstK_succ L n k)
        have HFF := Lib.hid (@Cp.firstK_false L n k hk)
        have HOS := Lib.hid (Cp.outK_succ L n)
        have HFE := Lib.hid (fun h : k = n => (show Cp.firstK L n k = Cp.first L n by rw [h]; rfl))
        obtain ⟨F, hF⟩ : ∃ F, Cp.firstK L n k = F := ⟨_, rfl⟩
        rw [hF] at HFS HFF HFE ⊢
        clear hF
        have HST := Lib.hid hst
        have HSN := Lib.hid (fun nv => hst.alloc #[.int .i64 nv] 3)
        clear hst
        cases F
        · have HNF := Lib.hid (show Cp.outK L (n + 1) = Cp.outK L n by rw [HOS.out, HFF.out rfl]; rfl)
          clear HFS HFF HFE HOS
          by_cases hkn : (k : Int) < n
          · go_wp2
            go_roundg (256 - (n + 1))
            case measure => have := HGZ.out; omega
            case rel => exact ⟨n + 1, _, _, by omega, rfl, rfl, rfl, by rw [HNF.out]; exact (HSN.out ((n + 1 : Nat) : Int)).get2.drop⟩
          · go_wp2
            go_roundg (256 - (n + 1))
            case measure => have := HGZ.out; omega
            case rel => exact ⟨n + 1, _, _, by omega, rfl, rfl, rfl, by rw [HNF.out]; exact (HSN.out ((n + 1 : Nat) : Int)).get2.drop⟩
        · by_cases hkn : k < n
          · have hknI : (k : Int) < n := by omega
            have HC := Lib.hid (fun W' h => alike_any L ao b off cap n k hlt (by omega) hl w W' w.heap.size gB [aOwn 24 4 vo ((Cp.outK L n).map Cs.clV)] HA.out h)
            obtain ⟨A, hA⟩ : ∃ A, Cp.alike L n k = A := ⟨_, rfl⟩
            rw [hA] at HC HFS
            clear hA
            go_wp2_with (fail)
            go_at_call 44
            refine (HC.out _ HST.out).mono ?_
            rintro e w5 ⟨rfl, hb5⟩
            have HST5 := Lib.hid (HST.out.call hb5)
            clear hb5 HST f0 HSN
            go_wp2
            go_roundg (n - (k + 1))
            case measure => have := HGY.out; omega
            case rel => exact ⟨k + 1, by omega, rfl, by go_num, by rw [HFS.out]; rfl, HST5.out⟩
          · have hknI : ¬ ((k : Int) < n) := by omega
            have HW1 := Lib.hid (fun W h => rWhere_any 44 #[.pointer (some ⟨w.heap.size, 0, none⟩), .pointer (some ⟨gB, 0, none⟩)] (Cp.alike L n) w W [aCel gB 3 #[.int .i64 n], aCel w.heap.size 36 #[.slice ao L.length cap], aOwn 24 4 vo ((Cp.outK L n).map Cs.clV)] (fun x hx W' ν h' => alike_any L ao b off cap n x hlt hx hl w W' w.heap.size gB _ HA.out (h'.toBack2)) (Fc.callC2 Tryd.func44 (by kernel_rfl) (by kernel_rfl)) h)
            have HNT := Lib.hid (show (Cp.outK L n).map Cs.clV ++ [Cs.clV (Cp.blk L n)] = (Cp.outK L (n + 1)).map Cs.clV by rw [HOS.out, ← HFE.out (by omega), if_pos rfl, List.map_append]; rfl)
            have HLN := Lib.hid (show ((Cp.outK L n).map Cs.clV).length ≤ 256 by rw [List.length_map]; exact Nat.le_trans (Cp.outK_len L n) (by omega))
            obtain ⟨q0, q1, q2, q3, hq⟩ := Cs.okFour (Cp.blk_ok L n)
            have hv : Cs.clV (Cp.blk L n) = .agg #[.int .u64 q0, .int .u64 q1, .int .u64 q2, .int .u64 q3] := by rw [hq]; rfl
            have hv2 : Cs.clV (Cs.of (Cp.alike L n)) = .agg #[.int .u64 q0, .int .u64 q1, .int .u64 q2, .int .u64 q3] := hv
            rw [hv] at HNT
            rw [hv2] at HW1
            clear HFS HFF HFE HOS hv hv2 hq
            go_wp2_with (fail)
            go_at_call 11
            refine (HW1.out _ HST.out).mono ?_
            rintro e w5 ⟨rfl, hb5⟩
            have HST5 := Lib.hid (HST.out.call hb5).get3
            clear hb5 HST f0 HW1
            go_wp2_with (at_builtin; refine St.app1n Cs.clE rfl (.tmp 26) (.tmp 29) rfl rfl HST5.out (.agg #[.int .u64 q0, .int .u64 q1, .int .u64 q2, .int .u64 q3]) rfl w5.heap.size 1 rfl rfl rfl (by intro q hq; simp [Value.cells] at hq; rcases hq with rfl | rfl | rfl | rfl <;> rfl) (by have := HLN.out; unfold maxLen; omega) (by have := HLN.out; omega) ?_; intro g' n' c' w9 hst9; rw [HNT.out] at hst9; have f0 := (hst9.nth 1 rfl).celAt (i := 0) (v := .int .i64 n) rfl; have HSN := Lib.hid (fun nv => hst9.alloc #[.int .i64 nv] 3); clear hst9 HST5)
            go_roundg (256 - (n + 1))
            case measure => have := HGZ.out; omega
            case rel => exact ⟨n + 1, _, _, by omega, rfl, rfl, rfl, (HSN.out ((n + 1 : Nat) : Int)).get3.drop.get3.get2⟩
    · have hge : ¬ ((n : Int) < 256) := by omega
      have hne : n = 256 := by omega
      rw [hne, Cp.outK_all] at hst
      have HST := Lib.hid hst
      clear hst hne
      go_wp2
      go_ret
      exact ⟨_, rfl, HST.out.drop.drop⟩
end Go.Proofs.YtlgabpcddldelaaDoor
