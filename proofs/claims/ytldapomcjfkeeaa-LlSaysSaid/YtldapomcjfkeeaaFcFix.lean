/-
  fix of the reference: rounds by a rule for heads, until nothing is new.
-/
import Derived.Test.YtldapomcjfkeeaaFcClo
namespace Go.Proofs.Ytldapomcjfkeeaa
set_option linter.unusedVariables false
set_option linter.unusedSimpArgs false
open Go.ChangeShapes Go.WideShapes Go.ChangeAt Go.RowKit

namespace Fc
def rdH (hold : List Bool → Pr → Bool) (l : List Pr) (X : List Bool) : List Bool := l.foldl (fun X p => set1 X p.1.toNat (hold X p)) X
theorem rdH_len {hold : List Bool → Pr → Bool} {l : List Pr} : ∀ {X : List Bool}, (rdH hold l X).length = X.length := by
  induction l with
  | nil => intro X; rfl
  | cons p l ih => intro X; exact (ih (X := set1 X p.1.toNat (hold X p))).trans set1_len
theorem rdH_step {hold : List Bool → Pr → Bool} {l : List Pr} {X : List Bool} {k : Nat} (h : k < l.length) : rdH hold (l.take (k + 1)) X = set1 (rdH hold (l.take k) X) (l.getD k (0, [])).1.toNat (hold (rdH hold (l.take k) X) (l.getD k (0, []))) := by
  unfold rdH
  rw [List.take_succ_eq_append_getElem h, List.foldl_append]
  simp [List.getD, List.getElem?_eq_getElem h]
def ProgB (X0 X : List Bool) (m : Bool) : Prop := (m = false → X = X0) ∧ (m = true → cnt X0 < cnt X)
theorem ProgB.refl (X : List Bool) : ProgB X X false := ⟨fun _ => rfl, fun h => by cases h⟩
theorem ProgB.new {X0 X : List Bool} {m : Bool} (h : ProgB X0 X m) {i : Nat} (hi : i < X.length) (hx : X.getD i false = false) : ProgB X0 (set1 X i true) true := by
  refine ⟨(fun g => by cases g), fun _ => ?_⟩
  have hc := cnt_set1 (b := true) hi
  rw [hx] at hc
  simp only [Bool.not_false, Bool.and_self, if_true] at hc
  cases m
  · rw [← h.1 rfl]; omega
  · have := h.2 rfl; omega
theorem set1_no {X : List Bool} {i : Nat} : set1 X i false = X := by simp [set1]
end Fc

set_option maxRecDepth 100000 in
set_option maxHeartbeats 1600000 in
theorem fcFix_any (w0 w : World) (t n : Int) (vp : Value) (l : List Fc.Pr) (N cl gX nX cX : Nat) (caps : Array Value) (hold : List Bool → Fc.Pr → Bool) (X : List Bool) (ν : List Asrt) (F : Nat → Prop) (hp : Enc.prods.R F w0 [vp] l) (hl : l.length ≤ 40) (hok : ∀ p ∈ l, Fc.okP N p) (hX : X.length = N) (hnX : nX = N) (hcf : ∀ args W, (callFunc cl args).run Try.prog W = .ok (.enter cl args) W)
    (HC : ∀ (W : World) (Y : List Bool) (A : Asrt) (p : Fc.Pr) (vb : Value), Y.length = N → (Enc.two.sl 16).R F w0 [vb] p.2 → p ∈ l → St w0 W (Fc.aB (.slice (some ⟨gX, 0, none⟩) nX cX) Y :: A :: ν) →
      Calls Try.prog cl (#[.agg #[.int .i64 p.1, vb]] ++ caps) W fun e w' => e = .returned (.bool (hold Y p)) ∧ St w0 w' (Fc.aB (.slice (some ⟨gX, 0, none⟩) nX cX) Y :: A :: ν))
    (hst : St w0 w (Fc.aB (.slice (some ⟨gX, 0, none⟩) nX cX) X :: ν)) :
    Calls Try.prog 109 #[.agg #[.int .i64 t, .int .i64 n, vp], .slice (some ⟨gX, 0, none⟩) nX cX, .func (.func cl) #[] caps] w fun e w' => ∃ X', e = .returned (.slice (some ⟨gX, 0, none⟩) nX cX) ∧ X'.length = N ∧ Fc.rdH hold l X' = X' ∧ (∀ Q : List Bool → Prop, (∀ Y, Y.length = N → Q Y → Q (Fc.rdH hold l Y)) → Q X → Q X') ∧
      St w0 w' (Fc.aB (.slice (some ⟨gX, 0, none⟩) nX cX) X' :: ν) := by
  have HC := Lib.hid HC
  obtain ⟨ap, bp, op, cp, rfl, -, p3, p4⟩ := slProds hp
  have P3 := Lib.hid p3; have P4 := Lib.hid p4; have HOK := Lib.hid hok; have HX := Lib.hid hX; have HNX := Lib.hid hnX; have HL := Lib.hid hl
  have hst1 := (hst.alloc #[.int .i64 t, .int .i64 n, .slice ap l.length cp] 68).get2
  have HST := Lib.hid hst1
  clear hst hst1 hp p3 p4 hok hX hnX hl
  go_enter Try.func109, Try.ntmps109
  go_wp2
  go_loopg [7] (N - Fc.cnt X) (fun gk v wr => ∃ Y, gk = N - Fc.cnt Y ∧ Hid (Y.length = N ∧ ∀ Q : List Bool → Prop, (∀ Y, Y.length = N → Q Y → Q (Fc.rdH hold l Y)) → Q X → Q Y) ∧ St w0 wr (Fc.aB (.slice (some ⟨gX, 0, none⟩) nX cX) Y :: aCel w.heap.size 68 #[.int .i64 t, .int .i64 n, .slice ap l.length cp] :: ν))
  case atStart => exact ⟨X, rfl, Lib.hid ⟨HX.out, fun Q _ h => h⟩, HST.out⟩
  case round =>
    clear HST
    rename World => wo
    obtain ⟨Y, hgk, HY, hst⟩ := hrel
    have HGK := Lib.hid hgk
    have HST := Lib.hid hst
    clear hgk hst
    obtain ⟨g0, g1, g2⟩ := HST.out.at3 1 rfl
    go_wp2
    clear g0 g1 g2
    go_loopg [7, 8] l.length (fun gk2 mv i wr2 => ∃ (k : Nat) (m : Bool), k ≤ l.length ∧ gk2 = l.length - k ∧ i = .int .i64 k ∧ mv = .bool m ∧ Hid (Fc.ProgB Y (Fc.rdH hold (l.take k) Y) m) ∧ St w0 wr2 (Fc.aB (.slice (some ⟨gX, 0, none⟩) nX cX) (Fc.rdH hold (l.take k) Y) :: aCel w.heap.size 68 #[.int .i64 t, .int .i64 n, .slice ap l.length cp] :: ν))
    case atStart => exact ⟨0, false, by omega, by omega, rfl, rfl, Lib.hid (Fc.ProgB.refl _), HST.out⟩
    case round =>
      clear HST
      obtain ⟨k, m, hk, hgk2, rfl, rfl, HPG, hst⟩ := hrel
      have HGK2 := Lib.hid hgk2
      clear hgk2
      obtain ⟨g0, g1, g2⟩ := hst.at3 1 rfl
      by_cases hlt : k < l.length
      · obtain ⟨rfl, _, _⟩ := P3.out (by omega)
        obtain ⟨vb, s1, s2, hbody, -⟩ := P4.out k hlt
        have hmem : l.getD k (0, []) ∈ l := by rw [show l.getD k (0, []) = l[k] by simp [List.getD, List.getElem?_eq_getElem hlt]]; exact List.getElem_mem hlt
        have hokp := HOK.out _ hmem
        have hsR := Fc.rdH_step (hold := hold) (X := Y) hlt
        have hlR := Fc.rdH_len (hold := hold) (l := l.take k) (X := Y)
        rw [HY.out.1] at hlR
        generalize l.getD k (0, []) = p at *
        generalize Fc.rdH hold (l.take k) Y = Yk at *
        obtain ⟨hp0, hp1, -⟩ := hokp
        have hcl := fun W A hs => HC.out W Yk A p vb hlR hbody hmem hs
        obtain ⟨h0, body⟩ := p
        simp only at s1 s2 hsR hp0 hp1 hbody hcl
        obtain ⟨h, rfl⟩ := Int.eq_ofNat_of_zero_le hp0
        rw [Int.toNat_natCast] at hsR
        have hh : h < Yk.length := by omega
        have hhn : (h : Int) < nX := by have := HNX.out; omega
        have hlt2 : (k : Int) < l.length := by omega
        have hk40 : (k : Int) < 40 := by have := HL.out; omega
        have s1' := s1
        have s1 := bkeep hst.bel s1
        have s2 := bkeep hst.bel s2
        obtain ⟨ab, bb, ob, cb, rfl, -, -, -⟩ := slTwo hbody
        obtain ⟨c1, c2⟩ := (show St w0 wr (aOwn 4 1 (.slice (some ⟨gX, 0, none⟩) nX cX) (Yk.map Value.bool) :: _) from hst).cellOwn (f := Value.bool) (fun _ => rfl) h hh false
        obtain ⟨B, hB⟩ : ∃ B, hold Yk (h, body) = B := ⟨_, rfl⟩
        rw [hB] at hcl hsR
        have HCL := Lib.hid hcl
        have HSR := Lib.hid hsR
        cases hv : Yk.getD h false
        · rw [hv] at c1
          have HV := Lib.hid hv
          have HHH := Lib.hid hh
          have HST := Lib.hid hst
          clear hst hsR hcl hB hv hh hbody hmem hlR hp0
          go_wp2_with (fail)
          refine (HCL.out _ _ HST.out).mono ?_
          rintro e w8 ⟨rfl, hst8⟩
          have HST := Lib.hid hst8
          obtain ⟨g0, g1, g2⟩ := hst8.at3 1 rfl
          obtain ⟨c1, c2⟩ := (show St w0 w8 (aOwn 4 1 (.slice (some ⟨gX, 0, none⟩) nX cX) (Yk.map Value.bool) :: _) from hst8).cellOwn (f := Value.bool) (fun _ => rfl) h HHH.out false
          rw [HV.out] at c1
          have s1 := bkeep hst8.bel s1'
          cases B
          · have hs := HSR.out
            rw [Fc.set1_no] at hs
            have HS := Lib.hid hs
            clear hst8 hs
            go_wp2
            go_roundg (l.length - (k + 1))
            case measure => have := HGK2.out; omega
            case rel => exact ⟨k + 1, m, by omega, rfl, by go_num, rfl, by rw [HS.out]; exact HPG, by rw [HS.out]; exact HST.out⟩
          · have hpg := HPG.out.new HHH.out HV.out
            have hst9 := (show St w0 w8 (aOwn 4 1 (.slice (some ⟨gX, 0, none⟩) nX cX) (Yk.map Value.bool) :: _) from hst8).setOwn (f := Value.bool) (fun _ => rfl) h true
            have HPG2 := Lib.hid hpg
            have HST := Lib.hid (show St w0 (w8.setCell ⟨gX, h, none⟩ (.bool true)) (Fc.aB (.slice (some ⟨gX, 0, none⟩) nX cX) (Fc.set1 Yk h true) :: _) from by rw [show Fc.set1 Yk h true = Yk.set h true by simp [Fc.set1]]; exact hst9)
            clear hst8 hst9 hpg
            go_wp2
            go_roundg (l.length - (k + 1))
            case measure => have := HGK2.out; omega
            case rel => exact ⟨k + 1, true, by omega, rfl, by go_num, rfl, by rw [HSR.out]; exact HPG2, by rw [HSR.out]; exact HST.out⟩
        · rw [hv] at c1
          have hs := hsR
          rw [Fc.set1_same hh (fun _ => hv)] at hs
          have HS := Lib.hid hs
          have HST := Lib.hid hst
          clear hst hsR hcl hB hv hh hbody hmem hlR hp0 hs
          go_wp2
          go_roundg (l.length - (k + 1))
          case measure => have := HGK2.out; omega
          case rel => exact ⟨k + 1, m, by omega, rfl, by go_num, rfl, by rw [HS.out]; exact HPG, by rw [HS.out]; exact HST.out⟩
      · obtain rfl : k = l.length := by omega
        rw [List.take_length] at hst HPG
        have hlR := Fc.rdH_len (hold := hold) (l := l) (X := Y)
        have HLR := Lib.hid (hlR.trans HY.out.1)
        have HST := Lib.hid hst
        clear hst hlR
        cases m
        · have HF := Lib.hid (HPG.out.1 rfl)
          rw [HF.out] at HST
          go_wp2
          go_ret
          exact ⟨Y, rfl, HY.out.1, HF.out, HY.out.2, HST.out.get2.drop⟩
        · have HLT := Lib.hid (HPG.out.2 rfl)
          go_wp2
          go_roundg (N - Fc.cnt (Fc.rdH hold l Y))
          case measure =>
            have h1 := HLT.out; have h2 := HGK.out; have h3 := Fc.cnt_le (Fc.rdH hold l Y); have h4 := HLR.out
            rw [h2]; omega
          case rel => exact ⟨_, rfl, Lib.hid ⟨HLR.out, fun Q hq h0 => hq _ HY.out.1 (HY.out.2 Q hq h0)⟩, HST.out⟩
end Go.Proofs.Ytldapomcjfkeeaa
