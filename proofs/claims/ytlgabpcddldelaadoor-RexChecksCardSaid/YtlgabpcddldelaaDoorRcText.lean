/-
  RexText of the reference: a regular expression as text.
-/
import Derived.Test.YtlgabpcddldelaaDoorRcChk
import Derived.Test.YtlgabpcddldelaaDoorRcs
import Derived.Test.YtlgabpcddldelaaDoorRcRuns
import Derived.Test.YtlgabpcddldelaaDoorClsRef
namespace Go.Proofs.YtlgabpcddldelaaDoor
set_option linter.unusedVariables false
set_option linter.unusedSimpArgs false
open Go.ChangeShapes Go.WideShapes Go.ChangeAt Go.RowKit

namespace Rcs
def RShows (w0 : World) (F : Nat → Prop) (n : Nat) : Prop := ∀ (t : Rx) (cs : Array Value) (W : World), (Rx.enc n).R F w0 cs.toList t → Rx.good n t → Rx.cnt n t ≤ 100 → Below w0.heap.size w0 W →
  Calls Tryd.prog 28 #[.agg cs] W fun e w' => e = .returned (.string (sh n t)) ∧ Below W.heap.size W w'
end Rcs

set_option maxRecDepth 100000 in
set_option maxHeartbeats 4000000 in
theorem rIn_any (w0 : World) (F : Nat → Prop) (n : Nat) (ih : Rcs.RShows w0 F n) (kl : List Rx) (ak : Option Addr) (bk ok ck : Nat) (hk : ((Rx.enc n).sl 64).R F w0 [.slice ak kl.length ck] kl) (i : Nat) (hi : i < kl.length) (hg : Rx.good n (kl.getD i Rx.nil)) (hc : Rx.cnt n (kl.getD i Rx.nil) ≤ 100)
    (ks : List Int) (hl : ks.length ≤ 3) (ao : Option Addr) (b off cap gr : Nat) (W : World) (hB : Below w0.heap.size w0 W) (hr : W.cell? ⟨gr, 5, none⟩ = some (.slice ak kl.length ck)) (hao : 0 < ks.length → ao = some ⟨b, off, none⟩) (hcell : ∀ i, i < ks.length → W.cell? ⟨b, off + i, none⟩ = some (.int .i64 (ks.getD i 0))) :
    Calls Tryd.prog 49 #[.int .i64 i, .slice ao ks.length cap, .pointer (some ⟨gr, 0, none⟩)] W fun e w' => e = .returned (.string (Rcs.brk ks (kl.getD i Rx.nil).kind (Rcs.sh n (kl.getD i Rx.nil)))) ∧ Below W.heap.size W w' := by
  obtain ⟨ak', bk, ok, ck', he, hk4, k3, k4⟩ := Rx.kidsAt hk
  simp only [Value.slice.injEq, true_and] at he
  obtain ⟨rfl, rfl⟩ := he
  obtain ⟨rfl, -, -⟩ := k3 (by omega)
  have hiI : (i : Int) < kl.length := by omega
  obtain ⟨b0, b1, b2, b3, ax, cx, -, e0, e1, e2, e3, e4, e5, hen⟩ := k4 i hi
  have d0 := bkeep hB e0; have d1 := bkeep hB e1; have d2 := bkeep hB e2; have d3 := bkeep hB e3; have d4 := bkeep hB e4; have d5 := bkeep hB e5
  have HK := Lib.hid (fun W' (hW : Below w0.heap.size w0 W') => ih (kl.getD i Rx.nil) _ W' hen hg hc hW)
  have hts := Rcs.sh_size hg
  have HST := Lib.hid ((St.init W).alloc #[.int .i64 (kl.getD i Rx.nil).kind, .int .u64 b0, .int .u64 b1, .int .u64 b2, .int .u64 b3, .slice ax (kl.getD i Rx.nil).kids.length cx] 42)
  have HBW := Lib.hid hB; have HAO := Lib.hid hao; have HCE := Lib.hid hcell
  have HBR := Lib.hid (show Rcs.brk ks (kl.getD i Rx.nil).kind (Rcs.sh n (kl.getD i Rx.nil)) = if ks.contains (kl.getD i Rx.nil).kind = true then ⟨#[40]⟩ ++ Rcs.sh n (kl.getD i Rx.nil) ++ ⟨#[41]⟩ else Rcs.sh n (kl.getD i Rx.nil) from rfl)
  obtain ⟨X, hX⟩ : ∃ X, Rcs.brk ks (kl.getD i Rx.nil).kind (Rcs.sh n (kl.getD i Rx.nil)) = X := ⟨_, rfl⟩
  rw [hX] at HBR ⊢
  have hts2 : (Rcs.sh n (kl.getD i Rx.nil)).size ≤ 240000 := by omega
  clear hX e0 e1 e2 e3 e4 e5 hen hg hc hB hao hcell k3 k4 hk ih hts
  generalize Rcs.sh n (kl.getD i Rx.nil) = T at *
  generalize (kl.getD i Rx.nil).kind = kd at *
  generalize (kl.getD i Rx.nil).kids.length = nx at *
  go_enter Tryd.func49, Tryd.ntmps49
  go_wp2_with (fail)
  go_loopg [7] ks.length (fun gz v7 wr => ∃ j : Nat, j ≤ ks.length ∧ gz = ks.length - j ∧ v7 = .int .i64 j ∧ Hid (∀ i, i < j → ks.getD i 0 ≠ kd) ∧ St W wr [aCel W.heap.size 42 #[.int .i64 kd, .int .u64 b0, .int .u64 b1, .int .u64 b2, .int .u64 b3, .slice ax nx cx]])
  case atStart => exact ⟨0, by omega, by omega, rfl, Lib.hid fun i hi => by omega, HST.out⟩
  case round =>
    clear HST
    obtain ⟨j, hj, hgz, rfl, HNO, hst⟩ := hrel
    have HGZ := Lib.hid hgz
    clear hgz
    obtain ⟨y0, y1, y2, y3, y4, y5⟩ := Rx.cel6 hst 0 rfl
    by_cases hlt : j < ks.length
    · have hltI : (j : Int) < ks.length := by omega
      obtain rfl := HAO.out (by omega)
      have hc := bkeep hst.bel (HCE.out j hlt)
      have HSN := Lib.hid (fun n => hst.drewN n)
      clear hst
      obtain ⟨kj, hkj⟩ : ∃ x, ks.getD j 0 = x := ⟨_, rfl⟩
      rw [hkj] at hc
      have HKJ := Lib.hid hkj
      clear hkj
      by_cases he : kd = kj
      · subst he
        have HX := Lib.hid (show X = ⟨#[40]⟩ ++ T ++ ⟨#[41]⟩ by
          rw [HBR.out, if_pos]
          rw [List.contains_iff_mem, ← HKJ.out, List.getD_eq_getElem?_getD, List.getElem?_eq_getElem hlt]
          exact List.getElem_mem hlt)
        have hadd1 : ∀ W, (Op.stringOp .add ⟨#[40]⟩ T).run Tryd.prog W = .ok (.string (⟨#[40]⟩ ++ T)) W := fun W => run_string_add_sum W _ _ (by show 1 + _ ≤ _; omega)
        have hadd2 : ∀ W, (Op.stringOp .add (⟨#[40]⟩ ++ T) ⟨#[41]⟩).run Tryd.prog W = .ok (.string (⟨#[40]⟩ ++ T ++ ⟨#[41]⟩)) W := fun W => run_string_add_sum W _ _ (by rw [ByteArray.size_append]; show 1 + _ + 1 ≤ _; omega)
        go_wp2_with (fail)
        go_quiet (fail)
        have HST := Lib.hid (HSN.out nq)
        clear HSN y0 y1 y2 y3 y4 y5 hc
        generalize World.drewN _ _ = W2 at *
        obtain ⟨y0, y1, y2, y3, y4, y5⟩ := Rx.cel6 HST.out 0 rfl
        go_wp2_with (fail)
        go_at_call 28
        refine (HK.out _ (HBW.out.trans (HST.out.bel.mono HBW.out.size))).mono ?_
        rintro e w1 ⟨rfl, hb1⟩
        have HST := Lib.hid (HST.out.call hb1)
        clear hb1
        go_wp2
        go_ret
        exact ⟨by rw [HX.out]; rfl, HST.out.bel⟩
      · have hne : (kd == kj) = false := by rw [beq_eq_false_iff_ne]; exact he
        have HNE := Lib.hid he
        clear he
        go_wp2_with (fail)
        go_quiet (fail)
        have HST := Lib.hid (HSN.out nq)
        clear HSN y0 y1 y2 y3 y4 y5 hc
        generalize World.drewN _ _ = W2 at *
        go_wp2
        go_roundg (ks.length - (j + 1))
        case measure => have := HGZ.out; omega
        case rel => exact ⟨j + 1, by omega, rfl, by go_num, Lib.hid fun i hi h => (by by_cases e : i = j; exact HNE.out (by rw [← HKJ.out, ← e, h]); exact HNO.out i (by omega) h), HST.out⟩
    · have hge : ¬ ((j : Int) < ks.length) := by omega
      have HX := Lib.hid (show X = T by
        rw [HBR.out, if_neg]
        rw [List.contains_iff_mem]
        intro hm
        obtain ⟨i, hi, e⟩ := List.getElem_of_mem hm
        exact HNO.out i (by omega) (by rw [List.getD_eq_getElem?_getD, List.getElem?_eq_getElem hi]; exact e))
      have HST := Lib.hid hst
      clear hst HBR HAO HCE HNO
      go_wp2_with (fail)
      go_at_call 28
      refine (HK.out _ (HBW.out.trans (HST.out.bel.mono HBW.out.size))).mono ?_
      rintro e w1 ⟨rfl, hb1⟩
      have HST := Lib.hid (HST.out.call hb1)
      clear hb1
      go_wp2
      go_ret
      exact ⟨by rw [HX.out]; rfl, HST.out.bel⟩

set_option maxRecDepth 100000 in
theorem rTextNot_any (a0 a1 a2 a3 : Nat) (hw : Dm.Ok4 [a0, a1, a2, a3]) (kd : Int) (vk : Value) (w0 W : World) (gr : Nat) (x : Nat) (hx : x < 256) (μ : List Asrt) (h : St w0 W (μ ++ [aCel gr 42 #[.int .i64 kd, .int .u64 a0, .int .u64 a1, .int .u64 a2, .int .u64 a3, vk]])) :
    Calls Tryd.prog 52 #[.int .i64 x, .pointer (some ⟨gr, 0, none⟩)] W fun e w' => e = .returned (.bool (!Dm.mem [a0, a1, a2, a3] x)) ∧ Below W.heap.size W w' := by
  have HC1 := Lib.hid (fun W' => Cs.has_words [a0, a1, a2, a3] hw x hx W')
  obtain ⟨A, hA⟩ : ∃ A, Dm.mem [a0, a1, a2, a3] x = A := ⟨_, rfl⟩
  rw [hA, show Cs.clV [a0, a1, a2, a3] = .agg #[.int .u64 a0, .int .u64 a1, .int .u64 a2, .int .u64 a3] from rfl] at HC1
  rw [hA]
  obtain ⟨y0, y1, y2, y3, y4, y5⟩ := Rx.cel6 h.toBack2 0 rfl
  clear hw h hA
  go_enter Tryd.func52, Tryd.ntmps52
  go_wp2_with (fail)
  go_at_call 9
  refine (HC1.out _).mono ?_
  rintro e w5 ⟨rfl, hb5⟩
  have HB := Lib.hid hb5
  clear hb5
  go_wp2
  go_ret
  exact ⟨rfl, HB.out⟩
end Go.Proofs.YtlgabpcddldelaaDoor
