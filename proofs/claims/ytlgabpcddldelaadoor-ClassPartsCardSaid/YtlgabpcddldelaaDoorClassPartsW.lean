/-
  ClassParts: the law's walk.
-/
import Derived.Test.YtlgabpcddldelaaDoorClsParts
namespace Go.Proofs.YtlgabpcddldelaaDoor
set_option linter.unusedVariables false
set_option linter.unusedSimpArgs false
open Go.ChangeShapes Go.WideShapes Go.ChangeAt Go.RowKit

theorem Cs.eqAny (a b c d : Nat) (W : World) : (Op.equalIn 10000 24 (.agg #[.int .u64 a, .int .u64 b, .int .u64 c, .int .u64 d]) (.agg #[.int .u64 a, .int .u64 b, .int .u64 c, .int .u64 d])).run Tryd.prog W = .ok true W :=
  (run_equalIn_arr2 (P := Tryd.prog) (n := 4) (k := .u64) Tryd.underlying24 Tryd.underlying22 (by kernel_rfl) [(a : Int), b, c, d] [(a : Int), b, c, d] rfl rfl 9998 W).trans (by rw [decide_eq_true rfl])

set_option maxRecDepth 100000 in
theorem eqCls (L : List (List Nat)) (a1 a2 : Option Addr) (b1 o1 c1 b2 o2 c2 : Nat) (hl : (L.length : Int) ≤ 140737488355328) (w : World) (h1 : Cs.At w a1 b1 o1 L) (h2 : Cs.At w a2 b2 o2 L) :
    Calls Tryd.prog 22 #[.slice a1 L.length c1, .slice a2 L.length c2] w fun e w' => e = .returned (.bool true) ∧ Below w.heap.size w w' := by
  have H1 := Lib.hid h1; have H2 := Lib.hid h2
  have HST := Lib.hid (Below.refl w.heap.size w)
  clear h1 h2
  have hne : ((L.length : Int) != (L.length : Int)) = false := by rw [bne_eq_false_iff_eq]
  go_enter Tryd.func22, Tryd.ntmps22
  go_wp2
  go_loopg [5, 13] L.length (fun gk v5 i wr => ∃ k : Nat, k ≤ L.length ∧ gk = L.length - k ∧ i = .int .i64 k ∧ Below w.heap.size w wr)
  case atStart => exact ⟨0, by omega, by omega, rfl, HST.out⟩
  case round =>
    clear HST
    obtain ⟨k, hk, hgk, rfl, hB⟩ := hrel
    have HGK := Lib.hid hgk
    clear hgk
    by_cases hlt : k < L.length
    · have hltI : (k : Int) < L.length := by omega
      obtain ⟨q0, q1, q2, q3, hq, e0, e1, e2, e3⟩ := (H1.out.keep hB).four hlt
      obtain ⟨p0, p1, p2, p3, hp, f0, f1, f2, f3⟩ := (H2.out.keep hB).four hlt
      rw [hq] at hp
      simp only [List.cons.injEq, and_true] at hp
      obtain ⟨rfl, rfl, rfl, rfl⟩ := hp
      obtain rfl := H1.out.at0 (by omega)
      obtain rfl := H2.out.at0 (by omega)
      have heq := Cs.eqAny q0 q1 q2 q3
      clear hq
      go_wp2
      go_quiet (fail)
      go_wp2
      go_roundg (L.length - (k + 1))
      case measure => have := HGK.out; omega
      case rel => exact ⟨k + 1, by omega, rfl, by go_num, below_drewN hB _⟩
    · have hge : ¬ ((k : Int) < L.length) := by omega
      go_wp2
      go_ret
      exact ⟨rfl, hB⟩

theorem Cp.ref_pos (L : List (List Nat)) : 0 < (Cp.ref L).length := by
  refine List.length_pos_of_mem (a := Cp.blk L 0) ?_
  unfold Cp.ref
  exact List.mem_map.2 ⟨0, List.mem_filter.2 ⟨List.mem_range.2 (by decide), Cp.first_iff.2 fun c hc => by omega⟩, rfl⟩

set_option maxRecDepth 100000 in
theorem classParts_walk (L : List (List Nat)) (ao : Option Addr) (b off cap : Nat) (w : World) (hA : Cs.At w ao b off L) (hT : Tz.Tab w) :
    Calls Tryd.prog 4 #[.slice ao L.length cap] w fun e w' => e = .returned (.bool true) ∧ Below w.heap.size w w' := by
  have HA := Lib.hid hA
  have HT := Lib.hid hT
  clear hA hT
  by_cases hl : 40 < L.length
  · have hlI : (40 : Int) < L.length := by omega
    go_enter Tryd.func4, Tryd.ntmps4
    go_wp2
    go_ret
    exact ⟨rfl, Below.refl _ _⟩
  · have hlI : ¬ (40 : Int) < L.length := by omega
    have HP := Lib.hid (clParts_any L ao b off cap (by omega) w HA.out HT.out)
    have HR := Lib.hid (fun w1 (hb : Below w.heap.size w w1) => rParts_any L ao b off cap (by omega) w1 (HA.out.keep hb))
    have HEQ := Lib.hid (fun (a1 a2 : Option Addr) (b1 o1 c1 b2 o2 c2 : Nat) W h1 h2 => eqCls (Cp.ref L) a1 a2 b1 o1 c1 b2 o2 c2 (by have := Cp.ref_len L; omega) W h1 h2)
    have HRL := Lib.hid (Cp.ref_len L)
    have HRP := Lib.hid (Cp.ref_pos L)
    have HRO := Lib.hid (show ∀ p ∈ Cp.ref L, Dm.Ok4 p from fun p hp => by obtain ⟨x, _, rfl⟩ := List.mem_map.1 hp; exact Cp.blk_ok _ _)
    generalize Cp.ref L = R at *
    go_enter Tryd.func4, Tryd.ntmps4
    go_wp2_with (fail)
    go_at_call 23
    refine (HP.out).mono ?_
    rintro e w1 ⟨v1, rfl, hst1⟩
    have HST1 := Lib.hid hst1
    have HR1 := Lib.hid (HR.out w1 hst1.bel)
    clear hst1
    go_wp2_with (fail)
    go_at_call 24
    refine (HR1.out).mono ?_
    rintro e w2 ⟨v2, rfl, hst2⟩
    have hst := HST1.out.join hst2
    obtain ⟨g1, c1, hv1, ha1⟩ := Cp.own_at HRO.out (by have := HRL.out; omega) HRP.out (hst.nth 1 rfl).own
    obtain ⟨g2, c2, hv2, ha2⟩ := Cp.own_at HRO.out (by have := HRL.out; omega) HRP.out (hst.nth 0 rfl).own
    subst hv1 hv2
    have HE := Lib.hid (HEQ.out _ _ _ _ c1 _ _ c2 w2 ha1 ha2)
    have HST := Lib.hid hst
    clear hst hst2 ha1 ha2 HST1 HR1
    go_wp2_with (fail)
    go_at_call 22
    refine (HE.out).mono ?_
    rintro e w3 ⟨rfl, hb3⟩
    have HST := Lib.hid (HST.out.call hb3)
    clear hb3
    go_wp2
    go_ret
    exact ⟨rfl, HST.out.bel⟩

theorem classParts_law {F : Nat → Prop} {v : Value} {l : List (List Int)} (W : World) (hT : Tz.Tab W) (h : ((Enc.row .u64 4).sl 32).R F W [v] l) :
    Calls Tryd.prog 4 #[v] W fun e w' => e = .returned (.bool true) ∧ Below W.heap.size W w' := by
  obtain ⟨ao, b, off, cap, L, rfl, _, _, hA⟩ := Cs.at_of h
  exact classParts_walk L ao b off cap W hA hT
end Go.Proofs.YtlgabpcddldelaaDoor
