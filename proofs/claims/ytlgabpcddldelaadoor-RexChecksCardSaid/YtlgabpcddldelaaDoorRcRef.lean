/-
  Rex of the reference: what is wrong with a regular expression.
-/
import Derived.Test.YtlgabpcddldelaaDoorRcChk
namespace Go.Proofs.YtlgabpcddldelaaDoor
set_option linter.unusedVariables false
set_option linter.unusedSimpArgs false
open Go.ChangeShapes Go.WideShapes Go.ChangeAt Go.RowKit

namespace Rx
def kk (k : Int) : Int := if k = 6 then 1 else if k = 4 ∨ k = 5 then 2 else 0
theorem bad_ref (t : Rx) (bz : Bool) (hz : decide (ws t = Dm.zero) = bz) : bad t = (decide (t.kind < 1) || decide (6 < t.kind) || ((t.kids.length : Int) != kk t.kind) || ((t.kind == 3) == bz)) := by
  unfold bad
  rw [hz]
  have hb : decide (t.kind = 3) = (t.kind == 3) := by rw [Bool.eq_iff_iff]; simp
  rw [hb]
  congr 1
  rw [Bool.eq_iff_iff, decide_eq_true_iff]
  simp only [decide_eq_true_eq, Bool.or_eq_true, bne_iff_ne]
  unfold kidsOf kk
  have hn0 : (0 : Int) ≤ (t.kids.length : Int) := Int.natCast_nonneg _
  generalize t.kind = k
  generalize (t.kids.length : Int) = n at *
  by_cases h1 : k = 1 ∨ k = 2 ∨ k = 3
  · rw [if_pos h1, if_neg (by omega), if_neg (by omega)]; omega
  · by_cases h6 : k = 6
    · rw [if_neg h1, if_pos h6, if_pos h6]; omega
    · by_cases h4 : k = 4 ∨ k = 5
      · rw [if_neg h1, if_neg h6, if_pos h4, if_neg h6, if_pos h4]; omega
      · rw [if_neg h1, if_neg h6, if_neg h4, if_neg h6, if_neg h4]; omega
end Rx

set_option maxRecDepth 100000 in
set_option maxHeartbeats 8000000 in
theorem rRexAt_any (w0 : World) (F : Nat → Prop) :
    ∀ (n : Nat) (t : Rx) (cs : Array Value) (deep m : Int) (g : Nat) (μ : List Asrt) (w : World), (Rx.enc n).R F w0 cs.toList t → Rx.In m → 1 ≤ deep → deep ≤ 31 → St w0 w (aCel g 3 #[.int .i64 m] :: μ) →
      Calls Tryd.prog 47 #[.agg cs, .int .i64 deep, .pointer (some ⟨g, 0, none⟩)] w fun e w' => e = .returned (.int .i64 (Rx.chk n t deep m).1) ∧ St w0 w' (aCel g 3 #[.int .i64 (Rx.chk n t deep m).2] :: μ) := by
  intro n
  induction n with
  | zero => intro t cs deep m g μ w h; exact h.elim
  | succ n ih =>
    intro t cs deep m g μ w ht hin hd0 hd1 hst
    obtain ⟨n', hn, vk, hcs, ⟨hk0, hk1⟩, hok, hk⟩ := Rx.opened ht
    obtain rfl : n = n' := by omega
    obtain ⟨a0, a1, a2, a3, hws⟩ := Cs.okFour hok
    have hcs2 : cs = #[.int .i64 t.kind, .int .u64 a0, .int .u64 a1, .int .u64 a2, .int .u64 a3, vk] := by
      apply Array.toList_inj.1
      rw [hcs, Rx.cel, hws]; rfl
    subst hcs2
    obtain ⟨ak, bk, ok, ck, rfl, hkl, k3, k4⟩ := Rx.kidsAt hk
    obtain ⟨hi0, hi1⟩ := hin
    have hout := Rx.chk_out (f := n + 1) (t := t) (deep := deep) (n := m) ⟨hi0, hi1⟩
    obtain ⟨R, hR⟩ : ∃ R, Rx.chk (n + 1) t deep m = R := ⟨_, rfl⟩
    rw [hR] at hout ⊢
    rw [Rx.chk, Rx.bad_ref t (decide ([a0, a1, a2, a3] = Dm.zero)) (by rw [hws])] at hR
    have hs1 := ((hst.alloc #[.int .i64 t.kind, .int .u64 a0, .int .u64 a1, .int .u64 a2, .int .u64 a3, .slice ak t.kids.length ck] 42).get2).setCel 0 (.int .i64 (m + 1))
    have HS1 := Lib.hid (show St w0 _ (aCel g 3 #[.int .i64 (m + 1)] :: aCel w.heap.size 42 #[.int .i64 t.kind, .int .u64 a0, .int .u64 a1, .int .u64 a2, .int .u64 a3, .slice ak t.kids.length ck] :: μ) from hs1)
    have hbig := hst.alloc #[.int .i64 t.kind, .int .u64 a0, .int .u64 a1, .int .u64 a2, .int .u64 a3, .slice ak t.kids.length ck] 42
    have q0 := (hbig.nth 1 rfl).celAt (i := 0) rfl
    have q1 := (hbig.nth 1 rfl).celFree 0
    have HR := Lib.hid hR
    have K3 := Lib.hid k3; have K4 := Lib.hid k4; have IH := Lib.hid ih
    clear hs1 hbig hst hR k3 k4 ih hk ht hcs hok hws hn
    generalize t.kind = kd at *
    generalize t.kids = ks at *
    by_cases h1 : 100 < m + 1
    · have he := HR.out
      rw [if_pos h1] at he
      subst he
      clear HR K3 K4 IH hkl
      go_enter Tryd.func47, Tryd.ntmps47
      go_wp2
      go_ret
      exact ⟨rfl, HS1.out.pick [0] 2 rfl rfl⟩
    by_cases h2 : 30 < deep
    · have he := HR.out
      rw [if_neg h1, if_pos h2] at he
      subst he
      clear HR K3 K4 IH hkl
      go_enter Tryd.func47, Tryd.ntmps47
      go_wp2
      go_ret
      exact ⟨rfl, HS1.out.pick [0] 2 rfl rfl⟩
    have hR2 := HR.out
    rw [if_neg h1, if_neg h2] at hR2
    clear HR
    have heq := fun W => Rx.eqz (a0 := a0) (a1 := a1) (a2 := a2) (a3 := a3) W
    generalize decide ([a0, a1, a2, a3] = Dm.zero) = bz at *
    have HR := Lib.hid hR2
    clear hR2
    have HSN := Lib.hid fun n => HS1.out.drewN n
    have hdw : IntKind.i64.wrap (deep + 1) = deep + 1 := IntWalk.i64_in _ (by omega)
    obtain ⟨y0, y1, y2, y3, y4, y5⟩ := Rx.cel6 HS1.out 1 rfl
    by_cases h6 : kd = 6
    · subst h6
      obtain ⟨bl, hbl⟩ : ∃ b, ((ks.length : Int) != 1) = b := ⟨_, rfl⟩
      have he := HR.out
      rw [show Rx.kk 6 = 1 from rfl, hbl] at he
      cases bl
      · cases bz
        · skip
          rw [if_pos (by decide)] at he
          subst he
          go_enter Tryd.func47, Tryd.ntmps47
          go_wp2_with (fail)
          generalize hWW : World.setCell _ _ _ = W1 at *
          clear hWW
          go_quiet (fail)
          have HS := Lib.hid (HSN.out nq)
          clear HSN HS1 q0 q1 y0 y1 y2 y3 y4 y5
          generalize World.drewN _ _ = W2 at *
          obtain ⟨y0, y1, y2, y3, y4, y5⟩ := Rx.cel6 HS.out 1 rfl
          have g0 := (HS.out.nth 0 rfl).celAt (i := 0) rfl
          go_wp2
          go_ret
          exact ⟨rfl, HS.out.pick [0] 2 rfl rfl⟩
        · skip
          rw [if_neg (by decide)] at he
          have HRL : Hid (Rx.chkK (fun k n' => Rx.chk n k (deep + 1) n') (ks.drop 0) (m + 1) = R) := Lib.hid he
          clear he HR
          go_enter Tryd.func47, Tryd.ntmps47
          go_wp2_with (fail)
          generalize hWW : World.setCell _ _ _ = W1 at *
          clear hWW
          go_quiet (fail)
          have HS := Lib.hid (HSN.out nq)
          clear HSN HS1 q0 q1 y0 y1 y2 y3 y4 y5
          generalize World.drewN _ _ = W2 at *
          obtain ⟨y0, y1, y2, y3, y4, y5⟩ := Rx.cel6 HS.out 1 rfl
          have g0 := (HS.out.nth 0 rfl).celAt (i := 0) rfl
          go_wp2_with (fail)
          go_loopg [8] ks.length (fun gk v8 wr => ∃ (i : Nat) (m' : Int), i ≤ ks.length ∧ gk = ks.length - i ∧ v8 = .int .i64 i ∧ Rx.In m' ∧ Hid (Rx.chkK (fun k n' => Rx.chk n k (deep + 1) n') (ks.drop i) m' = R) ∧ St w0 wr (aCel g 3 #[.int .i64 m'] :: aCel w.heap.size 42 #[.int .i64 6, .int .u64 a0, .int .u64 a1, .int .u64 a2, .int .u64 a3, .slice ak ks.length ck] :: μ))
          case atStart => exact ⟨0, m + 1, by omega, by omega, rfl, ⟨by omega, by omega⟩, HRL, HS.out⟩
          case round =>
            clear HS HRL y0 y1 y2 y3 y4 y5 g0
            obtain ⟨i, m', hi, hgk, rfl, hin', HRL, hst⟩ := hrel
            obtain ⟨y0, y1, y2, y3, y4, y5⟩ := Rx.cel6 hst 1 rfl
            have HGK := Lib.hid hgk
            have HIN := Lib.hid hin'
            clear hgk hin'
            by_cases hlt : i < ks.length
            · have hltI : (i : Int) < ks.length := by omega
              obtain ⟨rfl, -, -⟩ := K3.out (by omega)
              obtain ⟨b0, b1, b2, b3', ax, cx, -, e0, e1, e2, e3, e4, e5, hen⟩ := K4.out i hlt
              have he := HRL.out
              rw [Rx.chkK_at hlt] at he
              have hout2 := Rx.chk_out (f := n) (t := ks.getD i Rx.nil) (deep := deep + 1) (n := m') HIN.out
              have c0 := bkeep hst.bel e0; have c1 := bkeep hst.bel e1; have c2 := bkeep hst.bel e2; have c3 := bkeep hst.bel e3; have c4 := bkeep hst.bel e4; have c5 := bkeep hst.bel e5
              have HC := Lib.hid (fun W hW => IH.out (ks.getD i Rx.nil) #[.int .i64 (ks.getD i Rx.nil).kind, .int .u64 b0, .int .u64 b1, .int .u64 b2, .int .u64 b3', .slice ax (ks.getD i Rx.nil).kids.length cx] (deep + 1) m' g (aCel w.heap.size 42 #[.int .i64 6, .int .u64 a0, .int .u64 a1, .int .u64 a2, .int .u64 a3, .slice (some ⟨bk, ok, none⟩) ks.length ck] :: μ) W hen HIN.out (by omega) (by omega) hW)
              have HST := Lib.hid hst
              clear hst e0 e1 e2 e3 e4 e5 hen
              obtain ⟨Q, hQ⟩ : ∃ Q, Rx.chk n (ks.getD i Rx.nil) (deep + 1) m' = Q := ⟨_, rfl⟩
              rw [hQ] at HC he hout2
              have HE := Lib.hid he
              clear hQ he
              generalize (ks.getD i Rx.nil).kind = kd2 at *
              generalize (ks.getD i Rx.nil).kids.length = nx at *
              obtain ⟨e, m2⟩ := Q
              obtain ⟨o1, o2, o3, o4⟩ := hout2
              simp only at HC o1 o2 o3 o4
              go_wp2_with (fail)
              go_at_call 47
              refine (HC.out _ HST.out).mono ?_
              rintro ex w5 ⟨rfl, hst5⟩
              have HST5 := Lib.hid hst5
              clear hst5 HST HC c0 c1 c2 c3 c4 c5
              by_cases he0 : e = 0
              · subst he0
                have HRL := Lib.hid (show Rx.chkK (fun k n' => Rx.chk n k (deep + 1) n') (ks.drop (i + 1)) m2 = R by rw [← HE.out, if_pos rfl])
                have hm2 := o3 rfl
                go_wp2
                go_roundg (ks.length - (i + 1))
                case measure => have := HGK.out; omega
                case rel => exact ⟨i + 1, m2, by omega, rfl, by go_num, ⟨o1, hm2⟩, HRL, HST5.out⟩
              · have hne : (e != 0) = true := by simpa using he0
                have HRE := Lib.hid (show (e, m2) = R by rw [← HE.out, if_neg he0])
                go_wp2
                go_ret
                exact ⟨by rw [← HRE.out]; rfl, by rw [← HRE.out]; exact HST5.out.pick [0] 2 rfl rfl⟩
            · have hge : ¬ ((i : Int) < ks.length) := by omega
              have HRE := Lib.hid (show ((0 : Int), m') = R by rw [← HRL.out, Rx.chkK_end hlt])
              go_wp2
              go_ret
              exact ⟨by rw [← HRE.out]; rfl, by rw [← HRE.out]; exact hst.pick [0] 2 rfl rfl⟩
      · skip
        rw [if_pos (by cases bz <;> decide)] at he
        subst he
        go_enter Tryd.func47, Tryd.ntmps47
        go_wp2_with (fail)
        generalize hWW : World.setCell _ _ _ = W1 at *
        clear hWW
        go_quiet (fail)
        have HS := Lib.hid (HSN.out nq)
        clear HSN HS1 q0 q1 y0 y1 y2 y3 y4 y5
        generalize World.drewN _ _ = W2 at *
        obtain ⟨y0, y1, y2, y3, y4, y5⟩ := Rx.cel6 HS.out 1 rfl
        have g0 := (HS.out.nth 0 rfl).celAt (i := 0) rfl
        go_wp2
        go_ret
        exact ⟨rfl, HS.out.pick [0] 2 rfl rfl⟩
    by_cases h4 : kd = 4
    · subst h4
      obtain ⟨bl, hbl⟩ : ∃ b, ((ks.length : Int) != 2) = b := ⟨_, rfl⟩
      have he := HR.out
      rw [show Rx.kk 4 = 2 from rfl, hbl] at he
      cases bl
      · cases bz
        · skip
          rw [if_pos (by decide)] at he
          subst he
          go_enter Tryd.func47, Tryd.ntmps47
          go_wp2_with (fail)
          generalize hWW : World.setCell _ _ _ = W1 at *
          clear hWW
          go_quiet (fail)
          have HS := Lib.hid (HSN.out nq)
          clear HSN HS1 q0 q1 y0 y1 y2 y3 y4 y5
          generalize World.drewN _ _ = W2 at *
          obtain ⟨y0, y1, y2, y3, y4, y5⟩ := Rx.cel6 HS.out 1 rfl
          have g0 := (HS.out.nth 0 rfl).celAt (i := 0) rfl
          go_wp2
          go_ret
          exact ⟨rfl, HS.out.pick [0] 2 rfl rfl⟩
        · skip
          rw [if_neg (by decide)] at he
          have HRL : Hid (Rx.chkK (fun k n' => Rx.chk n k (deep + 1) n') (ks.drop 0) (m + 1) = R) := Lib.hid he
          clear he HR
          go_enter Tryd.func47, Tryd.ntmps47
          go_wp2_with (fail)
          generalize hWW : World.setCell _ _ _ = W1 at *
          clear hWW
          go_quiet (fail)
          have HS := Lib.hid (HSN.out nq)
          clear HSN HS1 q0 q1 y0 y1 y2 y3 y4 y5
          generalize World.drewN _ _ = W2 at *
          obtain ⟨y0, y1, y2, y3, y4, y5⟩ := Rx.cel6 HS.out 1 rfl
          have g0 := (HS.out.nth 0 rfl).celAt (i := 0) rfl
          go_wp2_with (fail)
          go_loopg [8] ks.length (fun gk v8 wr => ∃ (i : Nat) (m' : Int), i ≤ ks.length ∧ gk = ks.length - i ∧ v8 = .int .i64 i ∧ Rx.In m' ∧ Hid (Rx.chkK (fun k n' => Rx.chk n k (deep + 1) n') (ks.drop i) m' = R) ∧ St w0 wr (aCel g 3 #[.int .i64 m'] :: aCel w.heap.size 42 #[.int .i64 4, .int .u64 a0, .int .u64 a1, .int .u64 a2, .int .u64 a3, .slice ak ks.length ck] :: μ))
          case atStart => exact ⟨0, m + 1, by omega, by omega, rfl, ⟨by omega, by omega⟩, HRL, HS.out⟩
          case round =>
            clear HS HRL y0 y1 y2 y3 y4 y5 g0
            obtain ⟨i, m', hi, hgk, rfl, hin', HRL, hst⟩ := hrel
            obtain ⟨y0, y1, y2, y3, y4, y5⟩ := Rx.cel6 hst 1 rfl
            have HGK := Lib.hid hgk
            have HIN := Lib.hid hin'
            clear hgk hin'
            by_cases hlt : i < ks.length
            · have hltI : (i : Int) < ks.length := by omega
              obtain ⟨rfl, -, -⟩ := K3.out (by omega)
              obtain ⟨b0, b1, b2, b3', ax, cx, -, e0, e1, e2, e3, e4, e5, hen⟩ := K4.out i hlt
              have he := HRL.out
              rw [Rx.chkK_at hlt] at he
              have hout2 := Rx.chk_out (f := n) (t := ks.getD i Rx.nil) (deep := deep + 1) (n := m') HIN.out
              have c0 := bkeep hst.bel e0; have c1 := bkeep hst.bel e1; have c2 := bkeep hst.bel e2; have c3 := bkeep hst.bel e3; have c4 := bkeep hst.bel e4; have c5 := bkeep hst.bel e5
              have HC := Lib.hid (fun W hW => IH.out (ks.getD i Rx.nil) #[.int .i64 (ks.getD i Rx.nil).kind, .int .u64 b0, .int .u64 b1, .int .u64 b2, .int .u64 b3', .slice ax (ks.getD i Rx.nil).kids.length cx] (deep + 1) m' g (aCel w.heap.size 42 #[.int .i64 4, .int .u64 a0, .int .u64 a1, .int .u64 a2, .int .u64 a3, .slice (some ⟨bk, ok, none⟩) ks.length ck] :: μ) W hen HIN.out (by omega) (by omega) hW)
              have HST := Lib.hid hst
              clear hst e0 e1 e2 e3 e4 e5 hen
              obtain ⟨Q, hQ⟩ : ∃ Q, Rx.chk n (ks.getD i Rx.nil) (deep + 1) m' = Q := ⟨_, rfl⟩
              rw [hQ] at HC he hout2
              have HE := Lib.hid he
              clear hQ he
              generalize (ks.getD i Rx.nil).kind = kd2 at *
              generalize (ks.getD i Rx.nil).kids.length = nx at *
              obtain ⟨e, m2⟩ := Q
              obtain ⟨o1, o2, o3, o4⟩ := hout2
              simp only at HC o1 o2 o3 o4
              go_wp2_with (fail)
              go_at_call 47
              refine (HC.out _ HST.out).mono ?_
              rintro ex w5 ⟨rfl, hst5⟩
              have HST5 := Lib.hid hst5
              clear hst5 HST HC c0 c1 c2 c3 c4 c5
              by_cases he0 : e = 0
              · subst he0
                have HRL := Lib.hid (show Rx.chkK (fun k n' => Rx.chk n k (deep + 1) n') (ks.drop (i + 1)) m2 = R by rw [← HE.out, if_pos rfl])
                have hm2 := o3 rfl
                go_wp2
                go_roundg (ks.length - (i + 1))
                case measure => have := HGK.out; omega
                case rel => exact ⟨i + 1, m2, by omega, rfl, by go_num, ⟨o1, hm2⟩, HRL, HST5.out⟩
              · have hne : (e != 0) = true := by simpa using he0
                have HRE := Lib.hid (show (e, m2) = R by rw [← HE.out, if_neg he0])
                go_wp2
                go_ret
                exact ⟨by rw [← HRE.out]; rfl, by rw [← HRE.out]; exact HST5.out.pick [0] 2 rfl rfl⟩
            · have hge : ¬ ((i : Int) < ks.length) := by omega
              have HRE := Lib.hid (show ((0 : Int), m') = R by rw [← HRL.out, Rx.chkK_end hlt])
              go_wp2
              go_ret
              exact ⟨by rw [← HRE.out]; rfl, by rw [← HRE.out]; exact hst.pick [0] 2 rfl rfl⟩
      · skip
        rw [if_pos (by cases bz <;> decide)] at he
        subst he
        go_enter Tryd.func47, Tryd.ntmps47
        go_wp2_with (fail)
        generalize hWW : World.setCell _ _ _ = W1 at *
        clear hWW
        go_quiet (fail)
        have HS := Lib.hid (HSN.out nq)
        clear HSN HS1 q0 q1 y0 y1 y2 y3 y4 y5
        generalize World.drewN _ _ = W2 at *
        obtain ⟨y0, y1, y2, y3, y4, y5⟩ := Rx.cel6 HS.out 1 rfl
        have g0 := (HS.out.nth 0 rfl).celAt (i := 0) rfl
        go_wp2
        go_ret
        exact ⟨rfl, HS.out.pick [0] 2 rfl rfl⟩
    by_cases h5 : kd = 5
    · subst h5
      obtain ⟨bl, hbl⟩ : ∃ b, ((ks.length : Int) != 2) = b := ⟨_, rfl⟩
      have he := HR.out
      rw [show Rx.kk 5 = 2 from rfl, hbl] at he
      cases bl
      · cases bz
        · skip
          rw [if_pos (by decide)] at he
          subst he
          go_enter Tryd.func47, Tryd.ntmps47
          go_wp2_with (fail)
          generalize hWW : World.setCell _ _ _ = W1 at *
          clear hWW
          go_quiet (fail)
          have HS := Lib.hid (HSN.out nq)
          clear HSN HS1 q0 q1 y0 y1 y2 y3 y4 y5
          generalize World.drewN _ _ = W2 at *
          obtain ⟨y0, y1, y2, y3, y4, y5⟩ := Rx.cel6 HS.out 1 rfl
          have g0 := (HS.out.nth 0 rfl).celAt (i := 0) rfl
          go_wp2
          go_ret
          exact ⟨rfl, HS.out.pick [0] 2 rfl rfl⟩
        · skip
          rw [if_neg (by decide)] at he
          have HRL : Hid (Rx.chkK (fun k n' => Rx.chk n k (deep + 1) n') (ks.drop 0) (m + 1) = R) := Lib.hid he
          clear he HR
          go_enter Tryd.func47, Tryd.ntmps47
          go_wp2_with (fail)
          generalize hWW : World.setCell _ _ _ = W1 at *
          clear hWW
          go_quiet (fail)
          have HS := Lib.hid (HSN.out nq)
          clear HSN HS1 q0 q1 y0 y1 y2 y3 y4 y5
          generalize World.drewN _ _ = W2 at *
          obtain ⟨y0, y1, y2, y3, y4, y5⟩ := Rx.cel6 HS.out 1 rfl
          have g0 := (HS.out.nth 0 rfl).celAt (i := 0) rfl
          go_wp2_with (fail)
          go_loopg [8] ks.length (fun gk v8 wr => ∃ (i : Nat) (m' : Int), i ≤ ks.length ∧ gk = ks.length - i ∧ v8 = .int .i64 i ∧ Rx.In m' ∧ Hid (Rx.chkK (fun k n' => Rx.chk n k (deep + 1) n') (ks.drop i) m' = R) ∧ St w0 wr (aCel g 3 #[.int .i64 m'] :: aCel w.heap.size 42 #[.int .i64 5, .int .u64 a0, .int .u64 a1, .int .u64 a2, .int .u64 a3, .slice ak ks.length ck] :: μ))
          case atStart => exact ⟨0, m + 1, by omega, by omega, rfl, ⟨by omega, by omega⟩, HRL, HS.out⟩
          case round =>
            clear HS HRL y0 y1 y2 y3 y4 y5 g0
            obtain ⟨i, m', hi, hgk, rfl, hin', HRL, hst⟩ := hrel
            obtain ⟨y0, y1, y2, y3, y4, y5⟩ := Rx.cel6 hst 1 rfl
            have HGK := Lib.hid hgk
            have HIN := Lib.hid hin'
            clear hgk hin'
            by_cases hlt : i < ks.length
            · have hltI : (i : Int) < ks.length := by omega
              obtain ⟨rfl, -, -⟩ := K3.out (by omega)
              obtain ⟨b0, b1, b2, b3', ax, cx, -, e0, e1, e2, e3, e4, e5, hen⟩ := K4.out i hlt
              have he := HRL.out
              rw [Rx.chkK_at hlt] at he
              have hout2 := Rx.chk_out (f := n) (t := ks.getD i Rx.nil) (deep := deep + 1) (n := m') HIN.out
              have c0 := bkeep hst.bel e0; have c1 := bkeep hst.bel e1; have c2 := bkeep hst.bel e2; have c3 := bkeep hst.bel e3; have c4 := bkeep hst.bel e4; have c5 := bkeep hst.bel e5
              have HC := Lib.hid (fun W hW => IH.out (ks.getD i Rx.nil) #[.int .i64 (ks.getD i Rx.nil).kind, .int .u64 b0, .int .u64 b1, .int .u64 b2, .int .u64 b3', .slice ax (ks.getD i Rx.nil).kids.length cx] (deep + 1) m' g (aCel w.heap.size 42 #[.int .i64 5, .int .u64 a0, .int .u64 a1, .int .u64 a2, .int .u64 a3, .slice (some ⟨bk, ok, none⟩) ks.length ck] :: μ) W hen HIN.out (by omega) (by omega) hW)
              have HST := Lib.hid hst
              clear hst e0 e1 e2 e3 e4 e5 hen
              obtain ⟨Q, hQ⟩ : ∃ Q, Rx.chk n (ks.getD i Rx.nil) (deep + 1) m' = Q := ⟨_, rfl⟩
              rw [hQ] at HC he hout2
              have HE := Lib.hid he
              clear hQ he
              generalize (ks.getD i Rx.nil).kind = kd2 at *
              generalize (ks.getD i Rx.nil).kids.length = nx at *
              obtain ⟨e, m2⟩ := Q
              obtain ⟨o1, o2, o3, o4⟩ := hout2
              simp only at HC o1 o2 o3 o4
              go_wp2_with (fail)
              go_at_call 47
              refine (HC.out _ HST.out).mono ?_
              rintro ex w5 ⟨rfl, hst5⟩
              have HST5 := Lib.hid hst5
              clear hst5 HST HC c0 c1 c2 c3 c4 c5
              by_cases he0 : e = 0
              · subst he0
                have HRL := Lib.hid (show Rx.chkK (fun k n' => Rx.chk n k (deep + 1) n') (ks.drop (i + 1)) m2 = R by rw [← HE.out, if_pos rfl])
                have hm2 := o3 rfl
                go_wp2
                go_roundg (ks.length - (i + 1))
                case measure => have := HGK.out; omega
                case rel => exact ⟨i + 1, m2, by omega, rfl, by go_num, ⟨o1, hm2⟩, HRL, HST5.out⟩
              · have hne : (e != 0) = true := by simpa using he0
                have HRE := Lib.hid (show (e, m2) = R by rw [← HE.out, if_neg he0])
                go_wp2
                go_ret
                exact ⟨by rw [← HRE.out]; rfl, by rw [← HRE.out]; exact HST5.out.pick [0] 2 rfl rfl⟩
            · have hge : ¬ ((i : Int) < ks.length) := by omega
              have HRE := Lib.hid (show ((0 : Int), m') = R by rw [← HRL.out, Rx.chkK_end hlt])
              go_wp2
              go_ret
              exact ⟨by rw [← HRE.out]; rfl, by rw [← HRE.out]; exact hst.pick [0] 2 rfl rfl⟩
      · skip
        rw [if_pos (by cases bz <;> decide)] at he
        subst he
        go_enter Tryd.func47, Tryd.ntmps47
        go_wp2_with (fail)
        generalize hWW : World.setCell _ _ _ = W1 at *
        clear hWW
        go_quiet (fail)
        have HS := Lib.hid (HSN.out nq)
        clear HSN HS1 q0 q1 y0 y1 y2 y3 y4 y5
        generalize World.drewN _ _ = W2 at *
        obtain ⟨y0, y1, y2, y3, y4, y5⟩ := Rx.cel6 HS.out 1 rfl
        have g0 := (HS.out.nth 0 rfl).celAt (i := 0) rfl
        go_wp2
        go_ret
        exact ⟨rfl, HS.out.pick [0] 2 rfl rfl⟩
    have e4 : (kd == 4) = false := by rw [beq_eq_false_iff_ne]; exact h4
    have e5 : (kd == 5) = false := by rw [beq_eq_false_iff_ne]; exact h5
    have e6 : (kd == 6) = false := by rw [beq_eq_false_iff_ne]; exact h6
    obtain ⟨bl, hbl⟩ : ∃ b, ((ks.length : Int) != 0) = b := ⟨_, rfl⟩
    have he := HR.out
    rw [show Rx.kk kd = 0 by rw [Rx.kk, if_neg h6, if_neg (by omega)], hbl] at he
    clear h4 h5 h6
    by_cases hlo : kd < 1
    · have hlo2 : decide (kd < 1) = true := decide_eq_true hlo
      rw [hlo2, Bool.true_or, Bool.true_or, Bool.true_or, if_pos rfl] at he
      subst he
      go_enter Tryd.func47, Tryd.ntmps47
      go_wp2_with (fail)
      generalize hWW : World.setCell _ _ _ = W1 at *
      clear hWW
      go_quiet (fail)
      have HS := Lib.hid (HSN.out nq)
      clear HSN HS1 q0 q1 y0 y1 y2 y3 y4 y5
      generalize World.drewN _ _ = W2 at *
      obtain ⟨y0, y1, y2, y3, y4, y5⟩ := Rx.cel6 HS.out 1 rfl
      have g0 := (HS.out.nth 0 rfl).celAt (i := 0) rfl
      go_wp2
      go_ret
      exact ⟨rfl, HS.out.pick [0] 2 rfl rfl⟩
    have hlo2 : decide (kd < 1) = false := decide_eq_false hlo
    by_cases hhi : 6 < kd
    · have hhi2 : decide (6 < kd) = true := decide_eq_true hhi
      rw [hlo2, hhi2, Bool.false_or, Bool.true_or, Bool.true_or, if_pos rfl] at he
      subst he
      go_enter Tryd.func47, Tryd.ntmps47
      go_wp2_with (fail)
      generalize hWW : World.setCell _ _ _ = W1 at *
      clear hWW
      go_quiet (fail)
      have HS := Lib.hid (HSN.out nq)
      clear HSN HS1 q0 q1 y0 y1 y2 y3 y4 y5
      generalize World.drewN _ _ = W2 at *
      obtain ⟨y0, y1, y2, y3, y4, y5⟩ := Rx.cel6 HS.out 1 rfl
      have g0 := (HS.out.nth 0 rfl).celAt (i := 0) rfl
      go_wp2
      go_ret
      exact ⟨rfl, HS.out.pick [0] 2 rfl rfl⟩
    have hhi2 : decide (6 < kd) = false := decide_eq_false hhi
    obtain ⟨b3, hb3⟩ : ∃ b, (kd == 3) = b := ⟨_, rfl⟩
    rw [hlo2, hhi2, Bool.false_or, Bool.false_or, hb3] at he
    cases bl
    · cases b3
      · cases bz
        · skip
          rw [if_pos (by decide)] at he
          subst he
          go_enter Tryd.func47, Tryd.ntmps47
          go_wp2_with (fail)
          generalize hWW : World.setCell _ _ _ = W1 at *
          clear hWW
          go_quiet (fail)
          have HS := Lib.hid (HSN.out nq)
          clear HSN HS1 q0 q1 y0 y1 y2 y3 y4 y5
          generalize World.drewN _ _ = W2 at *
          obtain ⟨y0, y1, y2, y3, y4, y5⟩ := Rx.cel6 HS.out 1 rfl
          have g0 := (HS.out.nth 0 rfl).celAt (i := 0) rfl
          go_wp2
          go_ret
          exact ⟨rfl, HS.out.pick [0] 2 rfl rfl⟩
        · skip
          rw [if_neg (by decide)] at he
          have HRL : Hid (Rx.chkK (fun k n' => Rx.chk n k (deep + 1) n') (ks.drop 0) (m + 1) = R) := Lib.hid he
          clear he HR
          go_enter Tryd.func47, Tryd.ntmps47
          go_wp2_with (fail)
          generalize hWW : World.setCell _ _ _ = W1 at *
          clear hWW
          go_quiet (fail)
          have HS := Lib.hid (HSN.out nq)
          clear HSN HS1 q0 q1 y0 y1 y2 y3 y4 y5
          generalize World.drewN _ _ = W2 at *
          obtain ⟨y0, y1, y2, y3, y4, y5⟩ := Rx.cel6 HS.out 1 rfl
          have g0 := (HS.out.nth 0 rfl).celAt (i := 0) rfl
          go_wp2_with (fail)
          go_loopg [8] ks.length (fun gk v8 wr => ∃ (i : Nat) (m' : Int), i ≤ ks.length ∧ gk = ks.length - i ∧ v8 = .int .i64 i ∧ Rx.In m' ∧ Hid (Rx.chkK (fun k n' => Rx.chk n k (deep + 1) n') (ks.drop i) m' = R) ∧ St w0 wr (aCel g 3 #[.int .i64 m'] :: aCel w.heap.size 42 #[.int .i64 kd, .int .u64 a0, .int .u64 a1, .int .u64 a2, .int .u64 a3, .slice ak ks.length ck] :: μ))
          case atStart => exact ⟨0, m + 1, by omega, by omega, rfl, ⟨by omega, by omega⟩, HRL, HS.out⟩
          case round =>
            clear HS HRL y0 y1 y2 y3 y4 y5 g0
            obtain ⟨i, m', hi, hgk, rfl, hin', HRL, hst⟩ := hrel
            obtain ⟨y0, y1, y2, y3, y4, y5⟩ := Rx.cel6 hst 1 rfl
            have HGK := Lib.hid hgk
            have HIN := Lib.hid hin'
            clear hgk hin'
            by_cases hlt : i < ks.length
            · have hltI : (i : Int) < ks.length := by omega
              obtain ⟨rfl, -, -⟩ := K3.out (by omega)
              obtain ⟨b0, b1, b2, b3', ax, cx, -, e0, e1, e2, e3, e4, e5, hen⟩ := K4.out i hlt
              have he := HRL.out
              rw [Rx.chkK_at hlt] at he
              have hout2 := Rx.chk_out (f := n) (t := ks.getD i Rx.nil) (deep := deep + 1) (n := m') HIN.out
              have c0 := bkeep hst.bel e0; have c1 := bkeep hst.bel e1; have c2 := bkeep hst.bel e2; have c3 := bkeep hst.bel e3; have c4 := bkeep hst.bel e4; have c5 := bkeep hst.bel e5
              have HC := Lib.hid (fun W hW => IH.out (ks.getD i Rx.nil) #[.int .i64 (ks.getD i Rx.nil).kind, .int .u64 b0, .int .u64 b1, .int .u64 b2, .int .u64 b3', .slice ax (ks.getD i Rx.nil).kids.length cx] (deep + 1) m' g (aCel w.heap.size 42 #[.int .i64 kd, .int .u64 a0, .int .u64 a1, .int .u64 a2, .int .u64 a3, .slice (some ⟨bk, ok, none⟩) ks.length ck] :: μ) W hen HIN.out (by omega) (by omega) hW)
              have HST := Lib.hid hst
              clear hst e0 e1 e2 e3 e4 e5 hen
              obtain ⟨Q, hQ⟩ : ∃ Q, Rx.chk n (ks.getD i Rx.nil) (deep + 1) m' = Q := ⟨_, rfl⟩
              rw [hQ] at HC he hout2
              have HE := Lib.hid he
              clear hQ he
              generalize (ks.getD i Rx.nil).kind = kd2 at *
              generalize (ks.getD i Rx.nil).kids.length = nx at *
              obtain ⟨e, m2⟩ := Q
              obtain ⟨o1, o2, o3, o4⟩ := hout2
              simp only at HC o1 o2 o3 o4
              go_wp2_with (fail)
              go_at_call 47
              refine (HC.out _ HST.out).mono ?_
              rintro ex w5 ⟨rfl, hst5⟩
              have HST5 := Lib.hid hst5
              clear hst5 HST HC c0 c1 c2 c3 c4 c5
              by_cases he0 : e = 0
              · subst he0
                have HRL := Lib.hid (show Rx.chkK (fun k n' => Rx.chk n k (deep + 1) n') (ks.drop (i + 1)) m2 = R by rw [← HE.out, if_pos rfl])
                have hm2 := o3 rfl
                go_wp2
                go_roundg (ks.length - (i + 1))
                case measure => have := HGK.out; omega
                case rel => exact ⟨i + 1, m2, by omega, rfl, by go_num, ⟨o1, hm2⟩, HRL, HST5.out⟩
              · have hne : (e != 0) = true := by simpa using he0
                have HRE := Lib.hid (show (e, m2) = R by rw [← HE.out, if_neg he0])
                go_wp2
                go_ret
                exact ⟨by rw [← HRE.out]; rfl, by rw [← HRE.out]; exact HST5.out.pick [0] 2 rfl rfl⟩
            · have hge : ¬ ((i : Int) < ks.length) := by omega
              have HRE := Lib.hid (show ((0 : Int), m') = R by rw [← HRL.out, Rx.chkK_end hlt])
              go_wp2
              go_ret
              exact ⟨by rw [← HRE.out]; rfl, by rw [← HRE.out]; exact hst.pick [0] 2 rfl rfl⟩
      · cases bz
        · skip
          rw [if_neg (by decide)] at he
          have HRL : Hid (Rx.chkK (fun k n' => Rx.chk n k (deep + 1) n') (ks.drop 0) (m + 1) = R) := Lib.hid he
          clear he HR
          go_enter Tryd.func47, Tryd.ntmps47
          go_wp2_with (fail)
          generalize hWW : World.setCell _ _ _ = W1 at *
          clear hWW
          go_quiet (fail)
          have HS := Lib.hid (HSN.out nq)
          clear HSN HS1 q0 q1 y0 y1 y2 y3 y4 y5
          generalize World.drewN _ _ = W2 at *
          obtain ⟨y0, y1, y2, y3, y4, y5⟩ := Rx.cel6 HS.out 1 rfl
          have g0 := (HS.out.nth 0 rfl).celAt (i := 0) rfl
          go_wp2_with (fail)
          go_loopg [8] ks.length (fun gk v8 wr => ∃ (i : Nat) (m' : Int), i ≤ ks.length ∧ gk = ks.length - i ∧ v8 = .int .i64 i ∧ Rx.In m' ∧ Hid (Rx.chkK (fun k n' => Rx.chk n k (deep + 1) n') (ks.drop i) m' = R) ∧ St w0 wr (aCel g 3 #[.int .i64 m'] :: aCel w.heap.size 42 #[.int .i64 kd, .int .u64 a0, .int .u64 a1, .int .u64 a2, .int .u64 a3, .slice ak ks.length ck] :: μ))
          case atStart => exact ⟨0, m + 1, by omega, by omega, rfl, ⟨by omega, by omega⟩, HRL, HS.out⟩
          case round =>
            clear HS HRL y0 y1 y2 y3 y4 y5 g0
            obtain ⟨i, m', hi, hgk, rfl, hin', HRL, hst⟩ := hrel
            obtain ⟨y0, y1, y2, y3, y4, y5⟩ := Rx.cel6 hst 1 rfl
            have HGK := Lib.hid hgk
            have HIN := Lib.hid hin'
            clear hgk hin'
            by_cases hlt : i < ks.length
            · have hltI : (i : Int) < ks.length := by omega
              obtain ⟨rfl, -, -⟩ := K3.out (by omega)
              obtain ⟨b0, b1, b2, b3', ax, cx, -, e0, e1, e2, e3, e4, e5, hen⟩ := K4.out i hlt
              have he := HRL.out
              rw [Rx.chkK_at hlt] at he
              have hout2 := Rx.chk_out (f := n) (t := ks.getD i Rx.nil) (deep := deep + 1) (n := m') HIN.out
              have c0 := bkeep hst.bel e0; have c1 := bkeep hst.bel e1; have c2 := bkeep hst.bel e2; have c3 := bkeep hst.bel e3; have c4 := bkeep hst.bel e4; have c5 := bkeep hst.bel e5
              have HC := Lib.hid (fun W hW => IH.out (ks.getD i Rx.nil) #[.int .i64 (ks.getD i Rx.nil).kind, .int .u64 b0, .int .u64 b1, .int .u64 b2, .int .u64 b3', .slice ax (ks.getD i Rx.nil).kids.length cx] (deep + 1) m' g (aCel w.heap.size 42 #[.int .i64 kd, .int .u64 a0, .int .u64 a1, .int .u64 a2, .int .u64 a3, .slice (some ⟨bk, ok, none⟩) ks.length ck] :: μ) W hen HIN.out (by omega) (by omega) hW)
              have HST := Lib.hid hst
              clear hst e0 e1 e2 e3 e4 e5 hen
              obtain ⟨Q, hQ⟩ : ∃ Q, Rx.chk n (ks.getD i Rx.nil) (deep + 1) m' = Q := ⟨_, rfl⟩
              rw [hQ] at HC he hout2
              have HE := Lib.hid he
              clear hQ he
              generalize (ks.getD i Rx.nil).kind = kd2 at *
              generalize (ks.getD i Rx.nil).kids.length = nx at *
              obtain ⟨e, m2⟩ := Q
              obtain ⟨o1, o2, o3, o4⟩ := hout2
              simp only at HC o1 o2 o3 o4
              go_wp2_with (fail)
              go_at_call 47
              refine (HC.out _ HST.out).mono ?_
              rintro ex w5 ⟨rfl, hst5⟩
              have HST5 := Lib.hid hst5
              clear hst5 HST HC c0 c1 c2 c3 c4 c5
              by_cases he0 : e = 0
              · subst he0
                have HRL := Lib.hid (show Rx.chkK (fun k n' => Rx.chk n k (deep + 1) n') (ks.drop (i + 1)) m2 = R by rw [← HE.out, if_pos rfl])
                have hm2 := o3 rfl
                go_wp2
                go_roundg (ks.length - (i + 1))
                case measure => have := HGK.out; omega
                case rel => exact ⟨i + 1, m2, by omega, rfl, by go_num, ⟨o1, hm2⟩, HRL, HST5.out⟩
              · have hne : (e != 0) = true := by simpa using he0
                have HRE := Lib.hid (show (e, m2) = R by rw [← HE.out, if_neg he0])
                go_wp2
                go_ret
                exact ⟨by rw [← HRE.out]; rfl, by rw [← HRE.out]; exact HST5.out.pick [0] 2 rfl rfl⟩
            · have hge : ¬ ((i : Int) < ks.length) := by omega
              have HRE := Lib.hid (show ((0 : Int), m') = R by rw [← HRL.out, Rx.chkK_end hlt])
              go_wp2
              go_ret
              exact ⟨by rw [← HRE.out]; rfl, by rw [← HRE.out]; exact hst.pick [0] 2 rfl rfl⟩
        · skip
          rw [if_pos (by decide)] at he
          subst he
          go_enter Tryd.func47, Tryd.ntmps47
          go_wp2_with (fail)
          generalize hWW : World.setCell _ _ _ = W1 at *
          clear hWW
          go_quiet (fail)
          have HS := Lib.hid (HSN.out nq)
          clear HSN HS1 q0 q1 y0 y1 y2 y3 y4 y5
          generalize World.drewN _ _ = W2 at *
          obtain ⟨y0, y1, y2, y3, y4, y5⟩ := Rx.cel6 HS.out 1 rfl
          have g0 := (HS.out.nth 0 rfl).celAt (i := 0) rfl
          go_wp2
          go_ret
          exact ⟨rfl, HS.out.pick [0] 2 rfl rfl⟩
    · skip
      rw [Bool.true_or, if_pos rfl] at he
      subst he
      go_enter Tryd.func47, Tryd.ntmps47
      go_wp2_with (fail)
      generalize hWW : World.setCell _ _ _ = W1 at *
      clear hWW
      go_quiet (fail)
      have HS := Lib.hid (HSN.out nq)
      clear HSN HS1 q0 q1 y0 y1 y2 y3 y4 y5
      generalize World.drewN _ _ = W2 at *
      obtain ⟨y0, y1, y2, y3, y4, y5⟩ := Rx.cel6 HS.out 1 rfl
      have g0 := (HS.out.nth 0 rfl).celAt (i := 0) rfl
      go_wp2
      go_ret
      exact ⟨rfl, HS.out.pick [0] 2 rfl rfl⟩

set_option maxRecDepth 100000 in
theorem rRex_any (F : Nat → Prop) (n : Nat) (t : Rx) (cs : Array Value) (w : World) (ht : (Rx.enc n).R F w cs.toList t) :
    Calls Tryd.prog 26 #[.agg cs] w fun e w' => e = .returned (.int .i64 (Rx.err n t)) ∧ Below w.heap.size w w' := by
  obtain ⟨n', hn, vk, hcs, -, hok, hk⟩ := Rx.opened ht
  obtain ⟨a0, a1, a2, a3, hws⟩ := Cs.okFour hok
  have hcs2 : cs = #[.int .i64 t.kind, .int .u64 a0, .int .u64 a1, .int .u64 a2, .int .u64 a3, vk] := by
    apply Array.toList_inj.1
    rw [hcs, Rx.cel, hws]; rfl
  subst hcs2
  obtain ⟨ak, bk, ok, ck, rfl, -, -, -⟩ := Rx.kidsAt hk
  have hst := ((St.init w).alloc #[.int .i64 t.kind, .int .u64 a0, .int .u64 a1, .int .u64 a2, .int .u64 a3, .slice ak t.kids.length ck] 42).alloc #[.int .i64 0] 3
  simp only [World.size_alloc] at hst
  have HC := Lib.hid (rRexAt_any w F n t _ 1 0 (w.heap.size + 1) _ _ ht ⟨by decide, by decide⟩ (by decide) (by decide) hst)
  have HE := Lib.hid (show (Rx.chk n t 1 0).1 = Rx.err n t from rfl)
  generalize Rx.chk n t 1 0 = R at *
  clear hst ht hcs hok hws hk hn
  go_enter Tryd.func26, Tryd.ntmps26
  go_wp2_with (fail)
  go_at_call 47
  refine (HC.out).mono ?_
  rintro e w1 ⟨rfl, hst1⟩
  have HST := Lib.hid hst1
  clear hst1
  rw [HE.out]
  go_wp2
  go_ret
  exact ⟨rfl, HST.out.bel⟩
end Go.Proofs.YtlgabpcddldelaaDoor
