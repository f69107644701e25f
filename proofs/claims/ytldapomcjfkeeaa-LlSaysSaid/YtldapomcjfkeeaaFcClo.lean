/-
  The closures of AllFacts of the reference: Empty's, Makes'.
-/
import Derived.Test.YtldapomcjfkeeaaFcPlain
import Derived.Test.YtldapomcjfkeeaaSepPick
import Derived.Deep.QuietTactic
import Derived.BigQuiet
namespace Go.Proofs.Ytldapomcjfkeeaa
set_option linter.unusedVariables false
set_option linter.unusedSimpArgs false
open Go.ChangeShapes Go.WideShapes Go.ChangeAt Go.RowKit

set_option maxRecDepth 100000 in
set_option maxHeartbeats 1600000 in
theorem fcC1_any (w0 w : World) (B n cap gE : Nat) (h : Int) (vb vF vW vR vM : Value) (body : List (Int × Int)) (E : List Bool) (μ : List Asrt) (F : Nat → Prop) (hn : n = E.length) (hb : (Enc.two.sl 16).R F w0 [vb] body) (hx : ∀ x ∈ body, (x.1 = 1 ∧ 0 ≤ x.2) ∨ (x.1 = 2 ∧ 0 ≤ x.2 ∧ x.2 < E.length))
    (hst : St w0 w (Fc.aB (.slice (some ⟨gE, 0, none⟩) n cap) E :: aCel B 88 #[.slice (some ⟨gE, 0, none⟩) n cap, vF, vW, vR, vM] :: μ)) :
    Calls Try.prog 110 #[.agg #[.int .i64 h, vb], .pointer (some ⟨B, 0, none⟩)] w fun e w' => e = .returned (.bool (Fc.all E false body)) ∧ St w0 w' (Fc.aB (.slice (some ⟨gE, 0, none⟩) n cap) E :: aCel B 88 #[.slice (some ⟨gE, 0, none⟩) n cap, vF, vW, vR, vM] :: μ) := by
  unfold Fc.aB at hst ⊢
  obtain ⟨ab, bb, ob, cb, rfl, hl, b3, b4⟩ := slTwo hb
  have B3 := Lib.hid b3; have B4 := Lib.hid b4; have HX := Lib.hid hx; have HN := Lib.hid hn
  have hll : (body.length : Int) ≤ 140737488355328 := by omega
  obtain ⟨R, hR⟩ : ∃ R, Fc.all E false body = R := ⟨_, rfl⟩
  rw [hR]
  have HR : Hid (Fc.all E false (body.drop 0) = R) := Lib.hid hR
  have hst1 := (hst.alloc #[.int .i64 h, .slice ab body.length cb] 186).pick (ρ := aOwn 4 1 (.slice (some ⟨gE, 0, none⟩) n cap) (E.map Value.bool) :: aCel B 88 #[.slice (some ⟨gE, 0, none⟩) n cap, vF, vW, vR, vM] :: aCel w.heap.size 186 #[.int .i64 h, .slice ab body.length cb] :: μ) [1, 2, 0] 3 rfl rfl
  have HST := Lib.hid hst1
  clear hb b3 b4 hx hR hst hst1 hl hn
  go_enter Try.func110, Try.ntmps110
  go_wp2
  go_loopg [4] body.length (fun gk i wr => ∃ k : Nat, k ≤ body.length ∧ gk = body.length - k ∧ i = .int .i64 k ∧ St w0 wr (aOwn 4 1 (.slice (some ⟨gE, 0, none⟩) n cap) (E.map Value.bool) :: aCel B 88 #[.slice (some ⟨gE, 0, none⟩) n cap, vF, vW, vR, vM] :: aCel w.heap.size 186 #[.int .i64 h, .slice ab body.length cb] :: μ) ∧ Hid (Fc.all E false (body.drop k) = R))
  case atStart => exact ⟨0, by omega, by omega, rfl, HST.out, HR⟩
  case round =>
    clear HST HR
    obtain ⟨k, hk, hgk, rfl, hst, HR⟩ := hrel
    have HGK := Lib.hid hgk
    clear hgk
    obtain ⟨p0, p1⟩ := hst.at2 2 rfl
    by_cases hlt : k < body.length
    · obtain ⟨rfl, _, _⟩ := B3.out (by omega)
      obtain ⟨s1, s2, -, -⟩ := B4.out k hlt
      have hd := Fc.drop_at hlt (0, 0)
      have hxx := HX.out (body.getD k (0, 0)) (by rw [show body.getD k (0, 0) = body[k] by simp [List.getD, List.getElem?_eq_getElem hlt]]; exact List.getElem_mem hlt)
      have hr := HR.out
      rw [hd] at hr
      generalize body.getD k (0, 0) = x at *
      obtain ⟨x1, x2⟩ := x
      simp only at s1 s2 hxx
      have c1 := bkeep hst.bel s1
      have c2 := bkeep hst.bel s2
      have hlt2 : (k : Int) < body.length := by omega
      have x0 := (hst.nth 1 rfl).celAt (i := 0) rfl
      rcases hxx with ⟨rfl, h0⟩ | ⟨rfl, h0, h1⟩
      · rw [Fc.all_no (.inl ⟨rfl, rfl⟩)] at hr
        subst hr
        have HST := Lib.hid hst
        clear s1 s2 hd hst HR
        go_wp2
        go_quiet (fail)
        go_wp2
        go_ret
        exact ⟨rfl, (HST.out.drewN _).pick [0, 1] 3 rfl rfl⟩
      · obtain ⟨q, rfl⟩ := Int.eq_ofNat_of_zero_le h0
        have hq : q < E.length := by omega
        have e1 := (hst.cellOwn (f := Value.bool) (fun _ => rfl) q hq false).1
        have hqn : (q : Int) < n := by have := HN.out; omega
        have HST := Lib.hid hst
        cases hv : E.getD q false
        · rw [hv] at e1
          rw [Fc.all_no (.inr ⟨rfl, by rw [Int.toNat_natCast]; exact hv⟩)] at hr
          subst hr
          clear s1 s2 hd hst HR hv hq
          go_wp2
          go_quiet (fail)
          go_wp2
          go_ret
          exact ⟨rfl, (HST.out.drewN _).pick [0, 1] 3 rfl rfl⟩
        · rw [hv] at e1
          rw [Fc.all_go (by rw [Int.toNat_natCast, hv]; simp)] at hr
          have HR2 := Lib.hid hr
          clear s1 s2 hd hst HR hr hv hq
          go_wp2
          go_quiet (fail)
          go_wp2
          go_roundg (body.length - (k + 1))
          case measure => have := HGK.out; omega
          case rel => exact ⟨k + 1, by omega, rfl, by go_num, HST.out.drewN _, HR2⟩
    · obtain rfl : k = body.length := by omega
      have hr := HR.out
      rw [List.drop_length] at hr
      have hr2 : true = R := hr
      subst hr2
      have HST := Lib.hid hst
      clear hst HR hr
      go_wp2
      go_ret
      exact ⟨rfl, HST.out.pick [0, 1] 3 rfl rfl⟩

set_option maxRecDepth 100000 in
set_option maxHeartbeats 1600000 in
theorem fcC2_any (w0 w : World) (B n cap gM : Nat) (h : Int) (vb vE vF vW vR : Value) (body : List (Int × Int)) (M : List Bool) (μ : List Asrt) (F : Nat → Prop) (hn : n = M.length) (hb : (Enc.two.sl 16).R F w0 [vb] body) (hx : ∀ x ∈ body, (x.1 = 1 ∧ 0 ≤ x.2) ∨ (x.1 = 2 ∧ 0 ≤ x.2 ∧ x.2 < M.length))
    (hst : St w0 w (Fc.aB (.slice (some ⟨gM, 0, none⟩) n cap) M :: aCel B 88 #[vE, vF, vW, vR, .slice (some ⟨gM, 0, none⟩) n cap] :: μ)) :
    Calls Try.prog 111 #[.agg #[.int .i64 h, vb], .pointer (some ⟨B, 0, none⟩)] w fun e w' => e = .returned (.bool (Fc.all M true body)) ∧ St w0 w' (Fc.aB (.slice (some ⟨gM, 0, none⟩) n cap) M :: aCel B 88 #[vE, vF, vW, vR, .slice (some ⟨gM, 0, none⟩) n cap] :: μ) := by
  unfold Fc.aB at hst ⊢
  obtain ⟨ab, bb, ob, cb, rfl, hl, b3, b4⟩ := slTwo hb
  have B3 := Lib.hid b3; have B4 := Lib.hid b4; have HX := Lib.hid hx; have HN := Lib.hid hn
  have hll : (body.length : Int) ≤ 140737488355328 := by omega
  obtain ⟨R, hR⟩ : ∃ R, Fc.all M true body = R := ⟨_, rfl⟩
  rw [hR]
  have HR : Hid (Fc.all M true (body.drop 0) = R) := Lib.hid hR
  have hst1 := (hst.alloc #[.int .i64 h, .slice ab body.length cb] 186).pick (ρ := aOwn 4 1 (.slice (some ⟨gM, 0, none⟩) n cap) (M.map Value.bool) :: aCel B 88 #[vE, vF, vW, vR, .slice (some ⟨gM, 0, none⟩) n cap] :: aCel w.heap.size 186 #[.int .i64 h, .slice ab body.length cb] :: μ) [1, 2, 0] 3 rfl rfl
  have HST := Lib.hid hst1
  clear hb b3 b4 hx hR hst hst1 hl hn
  go_enter Try.func111, Try.ntmps111
  go_wp2
  go_loopg [4] body.length (fun gk i wr => ∃ k : Nat, k ≤ body.length ∧ gk = body.length - k ∧ i = .int .i64 k ∧ St w0 wr (aOwn 4 1 (.slice (some ⟨gM, 0, none⟩) n cap) (M.map Value.bool) :: aCel B 88 #[vE, vF, vW, vR, .slice (some ⟨gM, 0, none⟩) n cap] :: aCel w.heap.size 186 #[.int .i64 h, .slice ab body.length cb] :: μ) ∧ Hid (Fc.all M true (body.drop k) = R))
  case atStart => exact ⟨0, by omega, by omega, rfl, HST.out, HR⟩
  case round =>
    clear HST HR
    obtain ⟨k, hk, hgk, rfl, hst, HR⟩ := hrel
    have HGK := Lib.hid hgk
    clear hgk
    obtain ⟨p0, p1⟩ := hst.at2 2 rfl
    by_cases hlt : k < body.length
    · obtain ⟨rfl, _, _⟩ := B3.out (by omega)
      obtain ⟨s1, s2, -, -⟩ := B4.out k hlt
      have hd := Fc.drop_at hlt (0, 0)
      have hxx := HX.out (body.getD k (0, 0)) (by rw [show body.getD k (0, 0) = body[k] by simp [List.getD, List.getElem?_eq_getElem hlt]]; exact List.getElem_mem hlt)
      have hr := HR.out
      rw [hd] at hr
      generalize body.getD k (0, 0) = x at *
      obtain ⟨x1, x2⟩ := x
      simp only at s1 s2 hxx
      have c1 := bkeep hst.bel s1
      have c2 := bkeep hst.bel s2
      have hlt2 : (k : Int) < body.length := by omega
      have x0 := (hst.nth 1 rfl).celAt (i := 4) rfl
      rcases hxx with ⟨rfl, h0⟩ | ⟨rfl, h0, h1⟩
      · rw [Fc.all_go (by simp)] at hr
        have HR2 := Lib.hid hr
        have HST := Lib.hid hst
        clear s1 s2 hd hst HR hr
        go_wp2
        go_quiet (fail)
        go_wp2
        go_roundg (body.length - (k + 1))
        case measure => have := HGK.out; omega
        case rel => exact ⟨k + 1, by omega, rfl, by go_num, HST.out.drewN _, HR2⟩
      · obtain ⟨q, rfl⟩ := Int.eq_ofNat_of_zero_le h0
        have hq : q < M.length := by omega
        have e1 := (hst.cellOwn (f := Value.bool) (fun _ => rfl) q hq false).1
        have hqn : (q : Int) < n := by have := HN.out; omega
        have HST := Lib.hid hst
        cases hv : M.getD q false
        · rw [hv] at e1
          rw [Fc.all_no (.inr ⟨rfl, by rw [Int.toNat_natCast]; exact hv⟩)] at hr
          subst hr
          clear s1 s2 hd hst HR hv hq
          go_wp2
          go_quiet (fail)
          go_wp2
          go_ret
          exact ⟨rfl, (HST.out.drewN _).pick [0, 1] 3 rfl rfl⟩
        · rw [hv] at e1
          rw [Fc.all_go (by rw [Int.toNat_natCast, hv]; simp)] at hr
          have HR2 := Lib.hid hr
          clear s1 s2 hd hst HR hr hv hq
          go_wp2
          go_quiet (fail)
          go_wp2
          go_roundg (body.length - (k + 1))
          case measure => have := HGK.out; omega
          case rel => exact ⟨k + 1, by omega, rfl, by go_num, HST.out.drewN _, HR2⟩
    · obtain rfl : k = body.length := by omega
      have hr := HR.out
      rw [List.drop_length] at hr
      have hr2 : true = R := hr
      subst hr2
      have HST := Lib.hid hst
      clear hst HR hr
      go_wp2
      go_ret
      exact ⟨rfl, HST.out.pick [0, 1] 3 rfl rfl⟩
end Go.Proofs.Ytldapomcjfkeeaa
