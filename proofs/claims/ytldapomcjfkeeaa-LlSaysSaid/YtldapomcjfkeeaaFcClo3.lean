/-
  The closure of AllFacts of the reference for First.
-/
import Derived.Test.YtldapomcjfkeeaaFcClo
namespace Go.Proofs.Ytldapomcjfkeeaa
set_option linter.unusedVariables false
set_option linter.unusedSimpArgs false
open Go.ChangeShapes Go.WideShapes Go.ChangeAt Go.RowKit

namespace Fc
section
variable {E : List Bool} {S : Nat → Bool} {t : Nat} {x : Int × Int} {r : List (Int × Int)}
theorem begB_term (h : x.1 = 1) : begB E S t (x :: r) = decide (x.2.toNat = t) := by rw [begB, if_pos h]
theorem begB_yes (h : ¬ x.1 = 1) (h2 : S x.2.toNat = true) : begB E S t (x :: r) = true := by rw [begB, if_neg h, if_pos h2]
theorem begB_no (h : ¬ x.1 = 1) (h2 : S x.2.toNat = false) (h3 : E.getD x.2.toNat false = false) : begB E S t (x :: r) = false := by rw [begB, if_neg h, if_neg (by rw [h2]; simp), if_neg (by rw [h3]; simp)]
theorem begB_on (h : ¬ x.1 = 1) (h2 : S x.2.toNat = false) (h3 : E.getD x.2.toNat false = true) : begB E S t (x :: r) = begB E S t r := by rw [begB, if_neg h, if_neg (by rw [h2]; simp), if_pos h3]
end
end Fc

set_option maxRecDepth 100000 in
set_option maxHeartbeats 1600000 in
theorem fcC3_any (w0 w : World) (B B5 B10 B11 n cap gE nM cM gM nS cS gS t : Nat) (h : Int) (vb vF vW vR : Value) (body : List (Int × Int)) (E M S : List Bool) (μ : List Asrt) (F : Nat → Prop) (hn : n = E.length) (hnM : nM = M.length) (hnS : nS = S.length) (hEM : M.length = E.length) (hES : S.length = E.length) (hb : (Enc.two.sl 16).R F w0 [vb] body) (hx : ∀ x ∈ body, (x.1 = 1 ∧ 0 ≤ x.2) ∨ (x.1 = 2 ∧ 0 ≤ x.2 ∧ x.2 < E.length))
    (hst : St w0 w (Fc.aB (.slice (some ⟨gS, 0, none⟩) nS cS) S :: aCel B5 200 #[.func (.func 111) #[] #[.pointer (some ⟨B, 0, none⟩)]] :: aCel B10 3 #[.int .i64 t] :: aCel B11 54 #[.slice (some ⟨gS, 0, none⟩) nS cS] :: aCel B 88 #[.slice (some ⟨gE, 0, none⟩) n cap, vF, vW, vR, .slice (some ⟨gM, 0, none⟩) nM cM] :: Fc.aB (.slice (some ⟨gE, 0, none⟩) n cap) E :: Fc.aB (.slice (some ⟨gM, 0, none⟩) nM cM) M :: μ)) :
    Calls Try.prog 112 #[.agg #[.int .i64 h, vb], .pointer (some ⟨B5, 0, none⟩), .pointer (some ⟨B10, 0, none⟩), .pointer (some ⟨B11, 0, none⟩), .pointer (some ⟨B, 0, none⟩)] w fun e w' => e = .returned (.bool (Fc.all M true body && Fc.begB E (fun i => S.getD i false) t body)) ∧
      St w0 w' (Fc.aB (.slice (some ⟨gS, 0, none⟩) nS cS) S :: aCel B5 200 #[.func (.func 111) #[] #[.pointer (some ⟨B, 0, none⟩)]] :: aCel B10 3 #[.int .i64 t] :: aCel B11 54 #[.slice (some ⟨gS, 0, none⟩) nS cS] :: aCel B 88 #[.slice (some ⟨gE, 0, none⟩) n cap, vF, vW, vR, .slice (some ⟨gM, 0, none⟩) nM cM] :: Fc.aB (.slice (some ⟨gE, 0, none⟩) n cap) E :: Fc.aB (.slice (some ⟨gM, 0, none⟩) nM cM) M :: μ) := by
  have HC2 := Lib.hid fun W μ hs => fcC2_any w0 W B nM cM gM h vb (.slice (some ⟨gE, 0, none⟩) n cap) vF vW vR body M μ F hnM hb (by rw [hEM]; exact hx) (hst := hs)
  obtain ⟨ab, bb, ob, cb, rfl, hl, b3, b4⟩ := slTwo hb
  have B3 := Lib.hid b3; have B4 := Lib.hid b4; have HX := Lib.hid hx; have HN := Lib.hid hn; have HNS := Lib.hid hnS; have HES := Lib.hid hES
  have hll : (body.length : Int) ≤ 140737488355328 := by omega
  obtain ⟨A, hA⟩ : ∃ A, Fc.all M true body = A := ⟨_, rfl⟩
  rw [hA] at HC2 ⊢
  obtain ⟨R, hR⟩ : ∃ R, Fc.begB E (fun i => S.getD i false) t body = R := ⟨_, rfl⟩
  rw [hR]
  have HR : Hid (Fc.begB E (fun i => S.getD i false) t (body.drop 0) = R) := Lib.hid hR
  have hst1 := (hst.alloc #[.int .i64 h, .slice ab body.length cb] 186)
  have HST := Lib.hid hst1
  clear hb b3 b4 hx hR hst hst1 hl hn hnM hnS hEM hES hA
  go_enter Try.func112, Try.ntmps112
  go_wp2
  go_loopg [7] body.length (fun gk i wr => ∃ k : Nat, k ≤ body.length ∧ gk = body.length - k ∧ i = .int .i64 k ∧ St w0 wr (aCel w.heap.size 186 #[.int .i64 h, .slice ab body.length cb] :: Fc.aB (.slice (some ⟨gS, 0, none⟩) nS cS) S :: aCel B5 200 #[.func (.func 111) #[] #[.pointer (some ⟨B, 0, none⟩)]] :: aCel B10 3 #[.int .i64 t] :: aCel B11 54 #[.slice (some ⟨gS, 0, none⟩) nS cS] :: aCel B 88 #[.slice (some ⟨gE, 0, none⟩) n cap, vF, vW, vR, .slice (some ⟨gM, 0, none⟩) nM cM] :: Fc.aB (.slice (some ⟨gE, 0, none⟩) n cap) E :: Fc.aB (.slice (some ⟨gM, 0, none⟩) nM cM) M :: μ) ∧ Hid (Fc.begB E (fun i => S.getD i false) t (body.drop k) = R))
  case atStart => exact ⟨0, by omega, by omega, rfl, HST.out, HR⟩
  case round =>
    clear HST HR
    obtain ⟨k, hk, hgk, rfl, hst, HR⟩ := hrel
    have HGK := Lib.hid hgk
    clear hgk
    obtain ⟨p0, p1⟩ := hst.at2 0 rfl
    have l0 := World.block_lt_of_cell? _ _ p0
    have b5 := (hst.nth 2 rfl).celAt (i := 0) rfl
    by_cases hlt : k < body.length
    · obtain ⟨rfl, _, _⟩ := B3.out (by omega)
      obtain ⟨s1, s2, -, -⟩ := B4.out k hlt
      have hlt2 : (k : Int) < body.length := by omega
      have HST := Lib.hid (hst.pick [7, 5, 0, 1, 2, 3, 4, 6] 8 rfl rfl)
      clear hst
      go_wp2_with (fail)
      go_at_call 111
      refine (HC2.out _ _ HST.out).mono ?_
      rintro e w8 ⟨rfl, hst8⟩
      have hst := hst8.pick (ρ := (aCel w.heap.size 186 #[.int .i64 h, .slice (some ⟨bb, ob, none⟩) body.length cb] :: Fc.aB (.slice (some ⟨gS, 0, none⟩) nS cS) S :: aCel B5 200 #[.func (.func 111) #[] #[.pointer (some ⟨B, 0, none⟩)]] :: aCel B10 3 #[.int .i64 t] :: aCel B11 54 #[.slice (some ⟨gS, 0, none⟩) nS cS] :: aCel B 88 #[.slice (some ⟨gE, 0, none⟩) n cap, vF, vW, vR, .slice (some ⟨gM, 0, none⟩) nM cM] :: Fc.aB (.slice (some ⟨gE, 0, none⟩) n cap) E :: Fc.aB (.slice (some ⟨gM, 0, none⟩) nM cM) M :: μ)) [2, 3, 4, 5, 6, 1, 7, 0] 8 rfl rfl
      clear HST hst8 p0 p1 l0 b5
      obtain ⟨p0, p1⟩ := hst.at2 0 rfl
      cases A
      · have HST := Lib.hid hst
        clear hst
        go_wp2
        go_ret
        exact ⟨rfl, HST.out.drop⟩
      · have hd := Fc.drop_at hlt (0, 0)
        have hxx := HX.out (body.getD k (0, 0)) (by rw [show body.getD k (0, 0) = body[k] by simp [List.getD, List.getElem?_eq_getElem hlt]]; exact List.getElem_mem hlt)
        have hr := HR.out
        rw [hd] at hr
        generalize body.getD k (0, 0) = x at *
        obtain ⟨x1, x2⟩ := x
        simp only at s1 s2 hxx
        have c1 := bkeep hst.bel s1
        have c2 := bkeep hst.bel s2
        have lb := World.block_lt_of_cell? _ _ c1
        have HST := Lib.hid (hst.skip (.cells #[.int .i64 x1, .int .i64 x2] 96))
        have l0 := World.block_lt_of_cell? _ _ p0
        have b10 := (hst.nth 3 rfl).celAt (i := 0) rfl
        have l10 := World.block_lt_of_cell? _ _ b10
        have b11 := (hst.nth 4 rfl).celAt (i := 0) rfl
        have l11 := World.block_lt_of_cell? _ _ b11
        have bB := (hst.nth 5 rfl).celAt (i := 0) rfl
        have lB := World.block_lt_of_cell? _ _ bB
        rcases hxx with ⟨rfl, h0⟩ | ⟨rfl, h0, h1⟩
        · rw [Fc.begB_term rfl] at hr
          obtain ⟨q, rfl⟩ := Int.eq_ofNat_of_zero_le h0
          rw [Int.toNat_natCast] at hr
          have hq : ((q : Int) == (t : Int)) = decide (q = t) := by
            by_cases h : q = t
            · subst h; simp
            · rw [decide_eq_false h, beq_eq_false_iff_ne]; omega
          rw [← hq] at hr
          have HR2 := Lib.hid hr
          clear s1 s2 hd hst HR hr hq
          go_wp2
          go_ret
          exact ⟨by rw [← HR2.out]; simp, HST.out.drop⟩
        · obtain ⟨q, rfl⟩ := Int.eq_ofNat_of_zero_le h0
          have hq : q < E.length := by omega
          have hqS : q < S.length := by have := HES.out; omega
          have e1 := ((show St w0 w8 (aOwn 4 1 (.slice (some ⟨gE, 0, none⟩) n cap) (E.map Value.bool) :: _) from hst.nth 6 rfl).cellOwn (f := Value.bool) (fun _ => rfl) q hq false).1
          have t1 := ((show St w0 w8 (aOwn 4 1 (.slice (some ⟨gS, 0, none⟩) nS cS) (S.map Value.bool) :: _) from hst.nth 1 rfl).cellOwn (f := Value.bool) (fun _ => rfl) q hqS false).1
          have l2 := World.block_lt_of_cell? _ _ e1
          have l3 := World.block_lt_of_cell? _ _ t1
          have hqn : (q : Int) < n := by have := HN.out; omega
          have hqS2 : (q : Int) < nS := by have := HNS.out; omega
          have h21 : ¬ ((2 : Int) = 1) := by decide
          cases hS : S.getD q false
          · rw [hS] at t1
            cases hv : E.getD q false
            · rw [hv] at e1
              rw [Fc.begB_no h21 (by rw [Int.toNat_natCast]; exact hS) (by rw [Int.toNat_natCast]; exact hv)] at hr
              subst hr
              clear s1 s2 hd hst HR hv hq hqS h21 hS
              go_wp2
              go_ret
              exact ⟨rfl, HST.out.drop⟩
            · rw [hv] at e1
              rw [Fc.begB_on h21 (by rw [Int.toNat_natCast]; exact hS) (by rw [Int.toNat_natCast]; exact hv)] at hr
              have HR2 := Lib.hid hr
              clear s1 s2 hd hst HR hr hv hq hqS h21 hS
              go_wp2
              go_roundg (body.length - (k + 1))
              case measure => have := HGK.out; omega
              case rel => exact ⟨k + 1, by omega, rfl, by go_num, HST.out, HR2⟩
          · rw [hS] at t1
            rw [Fc.begB_yes h21 (by rw [Int.toNat_natCast]; exact hS)] at hr
            subst hr
            clear s1 s2 hd hst HR hq hqS h21 hS e1
            go_wp2
            go_ret
            exact ⟨rfl, HST.out.drop⟩
    · obtain rfl : k = body.length := by omega
      have hr := HR.out
      rw [List.drop_length] at hr
      have hr2 : false = R := hr
      subst hr2
      have HST := Lib.hid hst
      clear hst HR hr
      go_wp2
      go_ret
      exact ⟨by simp, HST.out.drop⟩
end Go.Proofs.Ytldapomcjfkeeaa
