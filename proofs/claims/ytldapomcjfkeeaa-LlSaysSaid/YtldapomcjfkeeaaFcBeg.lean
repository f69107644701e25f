/-
  begin of package facts: what some symbols begin with.
-/
import Derived.Test.YtldapomcjfkeeaaFcW
namespace Go.Proofs.Ytldapomcjfkeeaa
set_option linter.unusedVariables false
open Go.ChangeShapes Go.WideShapes Go.ChangeAt Go.RowKit

namespace Fc
section
variable {E : List Bool} {F : List Nat} {b o : Nat} {x : Int × Int} {r : List (Int × Int)}
theorem beg_term (h : x.1 = 1) : beg E F b (x :: r) = 2 ^ x.2.toNat := by rw [beg, if_pos h]
theorem beg_stop (h : ¬ x.1 = 1) (h2 : E.getD x.2.toNat false = false) : beg E F b (x :: r) = F.getD x.2.toNat 0 := by rw [beg, if_neg h, if_neg (by rw [h2]; simp)]
theorem beg_on (h : ¬ x.1 = 1) (h2 : E.getD x.2.toNat false = true) : beg E F b (x :: r) = F.getD x.2.toNat 0 ||| beg E F b r := by rw [beg, if_neg h, if_pos h2]
end
end Fc

set_option maxRecDepth 100000 in
set_option maxHeartbeats 1600000 in
theorem fcBegin_any (w0 w : World) (g n cap g2 n2 cap2 : Nat) (E : List Bool) (F : List Nat) (vW vR vM vb : Value) (behind : Nat) (body : List (Int × Int)) (μ : List Asrt) (Fb : Nat → Prop) (hn : n = E.length) (hn2 : n2 = F.length) (hEF : F.length = E.length) (hF : ∀ i, F.getD i 0 < 18446744073709551616) (hbh : behind < 18446744073709551616)
    (hb : (Enc.two.sl 16).R Fb w0 [vb] body) (hx : ∀ x ∈ body, (x.1 = 1 ∧ 0 ≤ x.2 ∧ x.2 < 64) ∨ (x.1 = 2 ∧ 0 ≤ x.2 ∧ x.2 < E.length)) (hst : St w0 w (Fc.aB (.slice (some ⟨g, 0, none⟩) n cap) E :: Fc.aU (.slice (some ⟨g2, 0, none⟩) n2 cap2) F :: μ)) :
    Calls Try.prog 106 #[.agg #[.slice (some ⟨g, 0, none⟩) n cap, .slice (some ⟨g2, 0, none⟩) n2 cap2, vW, vR, vM], vb, .int .u64 (behind : Int)] w fun e w' => e = .returned (.int .u64 ((Fc.beg E F behind body : Nat) : Int)) ∧ St w0 w' (Fc.aB (.slice (some ⟨g, 0, none⟩) n cap) E :: Fc.aU (.slice (some ⟨g2, 0, none⟩) n2 cap2) F :: μ) := by
  unfold Fc.aB Fc.aU at hst ⊢
  obtain ⟨ab, bb, ob, cb, rfl, hl, b3, b4⟩ := slTwo hb
  have B3 := Lib.hid b3; have B4 := Lib.hid b4; have HX := Lib.hid hx; have HN := Lib.hid hn; have HN2 := Lib.hid hn2; have HEF := Lib.hid hEF; have HF := Lib.hid hF
  have hll : (body.length : Int) ≤ 140737488355328 := by omega
  obtain ⟨R, hR⟩ : ∃ R, Fc.beg E F behind body = R := ⟨_, rfl⟩
  rw [hR]
  have HR : Hid (0 ||| Fc.beg E F behind (body.drop 0) = R) := Lib.hid (by rw [Nat.zero_or]; exact hR)
  have HBH := Lib.hid hbh
  have hst1 := (hst.alloc #[.slice (some ⟨g, 0, none⟩) n cap, .slice (some ⟨g2, 0, none⟩) n2 cap2, vW, vR, vM] 88).get3.get3
  have HST := Lib.hid hst1
  have hB := hst.bel.size
  clear hb b3 b4 hx hR hst hst1 hl hn hn2 hEF hF hbh
  go_enter Try.func106, Try.ntmps106
  go_wp2
  go_loopg [7, 12] body.length (fun gk ov i wr => ∃ (k : Nat) (o : Nat), k ≤ body.length ∧ gk = body.length - k ∧ i = .int .i64 k ∧ ov = .int .u64 (o : Int) ∧ Hid (o < 18446744073709551616) ∧ St w0 wr (aOwn 4 1 (.slice (some ⟨g, 0, none⟩) n cap) (E.map Value.bool) :: aOwn 85 1 (.slice (some ⟨g2, 0, none⟩) n2 cap2) (F.map Fc.uV) :: aCel w.heap.size 88 #[.slice (some ⟨g, 0, none⟩) n cap, .slice (some ⟨g2, 0, none⟩) n2 cap2, vW, vR, vM] :: μ) ∧ Hid (o ||| Fc.beg E F behind (body.drop k) = R))
  case atStart => exact ⟨0, 0, by omega, by omega, rfl, rfl, Lib.hid (by decide), HST.out, HR⟩
  case round =>
    clear HST HR
    obtain ⟨k, o, hk, hgk, rfl, rfl, HO, hst, HR⟩ := hrel
    have HGK := Lib.hid hgk
    clear hgk
    by_cases hlt : k < body.length
    · obtain ⟨rfl, _, _⟩ := B3.out (by omega)
      obtain ⟨s1, s2, -, -⟩ := B4.out k hlt
      have hd := Fc.drop_at hlt (0, 0)
      have hxx := HX.out (body.getD k (0, 0)) (by rw [show body.getD k (0, 0) = body[k] by simp [List.getD, List.getElem?_eq_getElem hlt]]; exact List.getElem_mem hlt)
      have hr := HR.out
      rw [hd] at hr
      generalize body.getD k (0, 0) = x at *
      obtain ⟨x1, x2⟩ := x
      simp only at s1 s2 hxx
      have c1 := bkeep hst.bel s1
      have c2 := bkeep hst.bel s2
      have hlt2 : (k : Int) < body.length := by omega
      have HST := Lib.hid (hst.skip (.cells #[.int .i64 x1, .int .i64 x2] 96))
      rcases hxx with ⟨rfl, h0, h64⟩ | ⟨rfl, h0, h1⟩
      · rw [Fc.beg_term rfl] at hr
        obtain ⟨q, rfl⟩ := Int.eq_ofNat_of_zero_le h0
        have hpow : 2 ^ q < 18446744073709551616 := Nat.pow_lt_pow_right (a := 2) (m := q) (n := 64) (by decide) (by omega)
        have hor := bits_or_u64_nat o (2 ^ q) HO.out hpow
        have hsh : IntKind.u64.wrap ((2 : Int) ^ q) = ((2 ^ q : Nat) : Int) := by
          have e : ((2 : Int) ^ q) = ((2 ^ q : Nat) : Int) := by simp
          rw [e, IntKind.wrap_u64]
          exact Int.emod_eq_of_lt (Int.natCast_nonneg _) (Int.ofNat_lt.2 hpow)
        have HOR := Lib.hid (show bits .or .u64 (o : Int) (IntKind.u64.wrap ((2 : Int) ^ q)) = ((o ||| 2 ^ q : Nat) : Int) by rw [hsh]; exact hor)
        rw [Int.toNat_natCast] at hr
        have HR2 := Lib.hid hr
        clear s1 s2 hd hst HR hr hor hpow hsh
        go_wp2
        go_ret
        exact ⟨congrArg (fun x => Ending.returned (.int .u64 x)) (HOR.out.trans (by rw [HR2.out])), HST.out.get3.drop⟩
      · obtain ⟨q, rfl⟩ := Int.eq_ofNat_of_zero_le h0
        have hq : q < E.length := by omega
        have hqF : q < F.length := by have := HEF.out; omega
        have e1 := (hst.cellOwn (f := Value.bool) (fun _ => rfl) q hq false).1
        have f1 := (hst.get2.cellOwn (f := Fc.uV) (fun _ => rfl) q hqF 0).1
        have x0 := (hst.nth 2 rfl).celAt (i := 0) rfl
        have x1 := (hst.nth 2 rfl).celAt (i := 1) rfl
        have hqn : (q : Int) < n := by have := HN.out; omega
        have hqn2 : (q : Int) < n2 := by have := HN2.out; omega
        have l1 := World.block_lt_of_cell? _ _ c1
        have l2 := World.block_lt_of_cell? _ _ e1
        have l3 := World.block_lt_of_cell? _ _ f1
        have l4 := World.block_lt_of_cell? _ _ x0
        have hor := bits_or_u64_nat o (F.getD q 0) HO.out (HF.out q)
        have HO2 : Hid (o ||| F.getD q 0 < 18446744073709551616) := Lib.hid (Nat.or_lt_two_pow (n := 64) HO.out (HF.out q))
        have hbt : ¬ ((2 : Int) = 1) := by decide
        cases hv : E.getD q false
        · rw [hv] at e1
          rw [Fc.beg_stop hbt (by rw [Int.toNat_natCast]; exact hv), Int.toNat_natCast] at hr
          generalize F.getD q 0 = y at *
          replace f1 : wr.cell? ⟨g2, q, none⟩ = some (.int .u64 (y : Int)) := f1
          have HOR := Lib.hid hor
          have HR2 := Lib.hid hr
          clear s1 s2 hd hst HR hr hv hq hqF hor hbt
          go_wp2
          go_ret
          exact ⟨congrArg (fun x => Ending.returned (.int .u64 x)) (HOR.out.trans (by rw [HR2.out])), HST.out.get3.drop⟩
        · rw [hv] at e1
          rw [Fc.beg_on hbt (by rw [Int.toNat_natCast]; exact hv), Int.toNat_natCast, ← Nat.or_assoc] at hr
          generalize F.getD q 0 = y at *
          replace f1 : wr.cell? ⟨g2, q, none⟩ = some (.int .u64 (y : Int)) := f1
          have HOR := Lib.hid hor
          have HR2 := Lib.hid hr
          clear s1 s2 hd hst HR hr hv hq hqF hor hbt
          go_wp2
          go_roundg (body.length - (k + 1))
          case measure => have := HGK.out; omega
          case rel => exact ⟨k + 1, o ||| y, by omega, rfl, by go_num, by rw [HOR.out], HO2, HST.out, HR2⟩
    · obtain rfl : k = body.length := by omega
      have hr := HR.out
      rw [List.drop_length] at hr
      have hr2 : o ||| behind = R := hr
      have HOR := Lib.hid (bits_or_u64_nat o behind HO.out HBH.out)
      have HR2 := Lib.hid hr2
      have HST := Lib.hid hst
      clear hst HR hr hr2
      go_wp2
      go_ret
      exact ⟨congrArg (fun x => Ending.returned (.int .u64 x)) (HOR.out.trans (by rw [HR2.out])), HST.out.get3.drop⟩
end Go.Proofs.Ytldapomcjfkeeaa
