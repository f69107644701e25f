/-
  RexChecks: the law's walk.
-/
import Derived.Test.YtlgabpcddldelaaDoorRcText2
import Derived.Test.YtlgabpcddldelaaDoorRcRef
namespace Go.Proofs.YtlgabpcddldelaaDoor
set_option linter.unusedVariables false
set_option linter.unusedSimpArgs false
open Go.ChangeShapes Go.WideShapes Go.ChangeAt Go.RowKit

set_option maxRecDepth 100000 in
set_option maxHeartbeats 1600000 in
theorem rexChecks_walk (n : Nat) (t : Rx) (cs : Array Value) (w : World) (hT : Tz.Tab w) (ht : (Rx.enc n).R (fun b => b < w.heap.size) w cs.toList t) :
    Calls Tryd.prog 6 #[.agg cs] w fun e w' => e = .returned (.bool true) ∧ Below w.heap.size w w' := by
  obtain ⟨n', hn, vk, hcs, -, hok, hk⟩ := Rx.opened ht
  obtain ⟨a0, a1, a2, a3, hws⟩ := Cs.okFour hok
  have hcs2 : cs = #[.int .i64 t.kind, .int .u64 a0, .int .u64 a1, .int .u64 a2, .int .u64 a3, vk] := by
    apply Array.toList_inj.1
    rw [hcs, Rx.cel, hws]; rfl
  subst hcs2
  obtain ⟨ak, bk, ok, ck, rfl, -, -, -⟩ := Rx.kidsAt hk
  have HST := Lib.hid ((St.init w).alloc #[.int .i64 t.kind, .int .u64 a0, .int .u64 a1, .int .u64 a2, .int .u64 a3, .slice ak t.kids.length ck] 42)
  have hmv := fun W' (h : Below w.heap.size w W') => Enc.mono (Rx.enc n) ht (fun _ h => h) (fun b hb => h.block b hb)
  have HR := Lib.hid (fun W' (h : Below w.heap.size w W') => rRex_any (fun b => b < w.heap.size) n t _ W' (hmv W' h))
  have HC := Lib.hid (fun W' (h : Below w.heap.size w W') => rexCheck_any (fun b => b < w.heap.size) n t _ W' (hmv W' h))
  have HP := Lib.hid (fun W' (h : Below w.heap.size w W') => rxPrint_any (fun b => b < w.heap.size) n t _ w W' hT (fun b hb => hb) h ht)
  have HTX := Lib.hid (fun (hg : Rx.err n t = 0) W' (h : Below w.heap.size w W') => rText_all w (fun b => b < w.heap.size) n t _ W' ht (Rx.err_good hg).1 (Rx.err_good hg).2 h)
  have HPR := Lib.hid (show Rcs.prints n t = if Rx.err n t = 0 then Rcs.sh n t else ⟨#[]⟩ from rfl)
  clear hmv ht hcs hok hws hk hT hn
  obtain ⟨PR, hPR⟩ : ∃ x, Rcs.prints n t = x := ⟨_, rfl⟩
  rw [hPR] at HP HPR
  clear hPR
  generalize Rx.err n t = E at *
  generalize Rcs.sh n t = T at *
  generalize t.kind = kd at *
  generalize t.kids.length = nk at *
  go_enter Tryd.func6, Tryd.ntmps6
  go_wp2_with (fail)
  go_at_call 26
  refine (HR.out _ HST.out.bel).mono ?_
  rintro e w1 ⟨rfl, hb1⟩
  have HST := Lib.hid (HST.out.call hb1)
  obtain ⟨y0, y1, y2, y3, y4, y5⟩ := Rx.cel6 HST.out 0 rfl
  clear hb1 HR
  by_cases hE : E = 0
  · subst hE
    have HTX2 := Lib.hid (fun W' h => HTX.out rfl W' h)
    have HPE := Lib.hid (show PR = T by rw [HPR.out, if_pos rfl])
    clear HTX HPR
    obtain rfl := HPE.out
    clear HPE
    go_wp2_with (fail)
    go_at_call 28
    refine (HTX2.out _ HST.out.bel).mono ?_
    rintro e w2 ⟨rfl, hb2⟩
    have HST := Lib.hid (HST.out.call hb2)
    clear hb2 y0 y1 y2 y3 y4 y5
    obtain ⟨y0, y1, y2, y3, y4, y5⟩ := Rx.cel6 HST.out 0 rfl
    go_wp2_with (fail)
    go_at_call 29
    refine (HP.out _ HST.out.bel).mono ?_
    rintro e w3 ⟨rfl, hb3⟩
    have HST := Lib.hid (HST.out.call hb3)
    clear hb3 y0 y1 y2 y3 y4 y5
    obtain ⟨y0, y1, y2, y3, y4, y5⟩ := Rx.cel6 HST.out 0 rfl
    go_wp2_with (fail)
    go_at_call 30
    refine (HC.out _ HST.out.bel).mono ?_
    rintro e w4 ⟨rfl, hb4⟩
    have HST := Lib.hid (HST.out.call hb4)
    clear hb4 y0 y1 y2 y3 y4 y5
    go_wp2
    go_ret
    exact ⟨by simp, HST.out.bel⟩
  · have hne : (E == 0) = false := by simpa using hE
    have hee : (E == E) = true := by simp
    have HPE := Lib.hid (show PR = ⟨#[]⟩ by rw [HPR.out, if_neg hE])
    clear HTX HPR hE
    obtain rfl := HPE.out
    clear HPE
    go_wp2_with (fail)
    go_at_call 29
    refine (HP.out _ HST.out.bel).mono ?_
    rintro e w3 ⟨rfl, hb3⟩
    have HST := Lib.hid (HST.out.call hb3)
    clear hb3 y0 y1 y2 y3 y4 y5
    obtain ⟨y0, y1, y2, y3, y4, y5⟩ := Rx.cel6 HST.out 0 rfl
    go_wp2_with (fail)
    go_at_call 30
    refine (HC.out _ HST.out.bel).mono ?_
    rintro e w4 ⟨rfl, hb4⟩
    have HST := Lib.hid (HST.out.call hb4)
    clear hb4 y0 y1 y2 y3 y4 y5
    go_wp2
    go_ret
    exact ⟨by simp, HST.out.bel⟩

theorem rexChecks_law {t : Rx} {A : Array Value} (W : World) (hT : Tz.Tab W) (h : Rd Rx.any (fun b => b < W.heap.size) W (.agg A) t) :
    Calls Tryd.prog 6 #[.agg A] W fun e w' => e = .returned (.bool true) ∧ Below W.heap.size W w' := by
  obtain ⟨n, hn⟩ := h
  exact rexChecks_walk n t A W hT hn
end Go.Proofs.YtlgabpcddldelaaDoor
