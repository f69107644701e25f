/-
  The walk of the law GateSays.
-/
import Derived.Test.YtkgpipokfoadiaaGateTake
namespace Go.Proofs.Ytkgpipokfoadiaa
set_option linter.unusedVariables false
open Go.ChangeShapes Go.WideShapes Go.ChangeAt Go.RowKit

section
variable {w0 w : World} {μ : List Asrt} {A : Asrt}
theorem St.one (h : St w0 w μ) (hA : A ∈ μ) : St w0 w [A] := by
  refine ⟨h.bel, fun X hX => ?_, fun X hX => ?_, ?_⟩
  · rw [List.mem_singleton.1 hX]; exact h.ok A hA
  · rw [List.mem_singleton.1 hX]; exact h.lo A hA
  · simp only [List.flatMap_cons, List.flatMap_nil, List.append_nil]
    obtain ⟨s, t, rfl⟩ := List.append_of_mem hA
    have h3 := h.sep
    rw [List.flatMap_append, List.flatMap_cons] at h3
    exact (List.nodup_append.1 (List.nodup_append.1 h3).2.1).1
end

/-- What a gate of one's own holds, in a later world. -/
theorem St.gate {w0 w : World} {μ : List Asrt} {g : Nat} {T e : TypeId} {v v1 v2 : Value} {l : List (Int × Int)} (h : St w0 w μ) (h1 : aCel g T #[v, v1, v2] ∈ μ) (h2 : aOwn e 2 v (l.map pairV) ∈ μ) (hb : (l.length : Int) * 16 ≤ 140737488355328)
    (hw : ∀ p ∈ l, (-9223372036854775808 ≤ p.1 ∧ p.1 ≤ 9223372036854775807) ∧ (-9223372036854775808 ≤ p.2 ∧ p.2 ≤ 9223372036854775807)) :
    w.cell? ⟨g, 0, none⟩ = some v ∧ w.cell? ⟨g, 1, none⟩ = some v1 ∧ w.cell? ⟨g, 2, none⟩ = some v2 ∧ (Enc.two.sl 16).R (fun b => b < w.heap.size) w [v] l := by
  have k := (h.one h1).cel3
  have o := h.one h2
  exact ⟨k.1, k.2.1, k.2.2.1, o.own.two (fun b hb => (o.fpOwn b hb).2) hb hw⟩

namespace Gt
def takeE (l : List (Int × Int)) (c n k : Int) : Int := if err l c n ≠ 0 then err l c n else if k < 0 then 1 else 0
def grantC (l : List (Int × Int)) (c n k : Int) : Int := if grantE l c n k = 0 then sum c k else c
def takeD (l : List (Int × Int)) (c n k : Int) : Nat := if takeE l c n k = 0 then (cut k c l.length).toNat else 0
end Gt
theorem grant_any {v : Value} {l : List (Int × Int)} (c n k : Int) (hk0 : -9223372036854775808 ≤ k) (hk1 : k ≤ 9223372036854775807) (w : World) {F : Nat → Prop} (hF : ∀ b, F b → b < w.heap.size) (h : (Enc.two.sl 16).R F w [v] l) :
    Calls Try.prog 22 #[.agg #[v, .int .i64 c, .int .i64 n], .int .i64 k] w (RetG (Gt.grantE l c n k) l (Gt.grantC l c n k) n w) := by
  by_cases he : Gt.err l c n = 0
  · by_cases hk : k < 1 ∨ 1073741824 < k
    · have e1 : Gt.grantE l c n k = 1 := by rw [Gt.grantE, if_neg (by simp [he]), if_pos hk]
      have e2 : Gt.grantC l c n k = c := by rw [Gt.grantC, if_neg (by rw [e1]; decide)]
      rw [e1, e2]; exact grant_arg c n k hk0 hk1 w hF h he hk
    · have e1 : Gt.grantE l c n k = 0 := by rw [Gt.grantE, if_neg (by simp [he]), if_neg hk]
      have e2 : Gt.grantC l c n k = Gt.sum c k := by rw [Gt.grantC, if_pos e1]
      rw [e1, e2]; exact grant_ok c n k hk0 hk1 w hF h he hk
  · have e1 : Gt.grantE l c n k = Gt.err l c n := by rw [Gt.grantE, if_pos he]
    have e2 : Gt.grantC l c n k = c := by rw [Gt.grantC, if_neg (by rw [e1]; exact he)]
    rw [e1, e2]; exact grant_bad c n k hk0 hk1 w hF h he
theorem take_any {v : Value} {l : List (Int × Int)} (c n k : Int) (hk0 : -9223372036854775808 ≤ k) (hk1 : k ≤ 9223372036854775807) (w : World) {F : Nat → Prop} (hF : ∀ b, F b → b < w.heap.size) (h : (Enc.two.sl 16).R F w [v] l) :
    Calls Try.prog 23 #[.agg #[v, .int .i64 c, .int .i64 n], .int .i64 k] w (RetT (Gt.takeE l c n k) (l.drop (Gt.takeD l c n k)) (l.take (Gt.takeD l c n k)) (c - Gt.takeD l c n k) (n + Gt.takeD l c n k) w) := by
  by_cases he : Gt.err l c n = 0
  · by_cases hk : k < 0
    · have e1 : Gt.takeE l c n k = 1 := by rw [Gt.takeE, if_neg (by simp [he]), if_pos hk]
      have e2 : Gt.takeD l c n k = 0 := by rw [Gt.takeD, if_neg (by rw [e1]; decide)]
      rw [e1, e2]; simpa using take_arg c n k hk0 hk1 w hF h he hk
    · have e1 : Gt.takeE l c n k = 0 := by rw [Gt.takeE, if_neg (by simp [he]), if_neg hk]
      have e2 : Gt.takeD l c n k = (Gt.cut k c l.length).toNat := by rw [Gt.takeD, if_pos e1]
      have h3 := Gt.cut_in (m := k) (c := c) (n := l.length) (by omega) (Gt.err_zero he).2.1
      have e3 : ((Gt.takeD l c n k : Nat) : Int) = Gt.cut k c l.length := by rw [e2]; omega
      rw [e1, e3, e2]; exact take_ok c n k hk0 hk1 w hF h he (by omega)
  · have e1 : Gt.takeE l c n k = Gt.err l c n := by rw [Gt.takeE, if_pos he]
    have e2 : Gt.takeD l c n k = 0 := by rw [Gt.takeD, if_neg (by rw [e1]; exact he)]
    rw [e1, e2]; simpa using take_bad c n k hk0 hk1 w hF h he

set_option maxRecDepth 100000 in
set_option maxHeartbeats 16000000 in
theorem gateSays_bad {v v2 : Value} {l l2 : List (Int × Int)} (c n k m : Int) (hk0 : -9223372036854775808 ≤ k) (hk1 : k ≤ 9223372036854775807) (hm0 : -9223372036854775808 ≤ m) (hm1 : m ≤ 9223372036854775807) (w : World) {F : Nat → Prop} (hF : ∀ b, F b → b < w.heap.size)
    (h : (Enc.two.sl 16).R F w [v] l) (h2 : (Enc.two.sl 16).R F w [v2] l2) (he : Gt.err l c n ≠ 0) :
    Calls Try.prog 5 #[.agg #[v, .int .i64 c, .int .i64 n], v2, .int .i64 k, .int .i64 m] w (fun e w' => e = .returned (.bool true) ∧ Below w.heap.size w w') := by
  have H := Lib.hid h; have HF := Lib.hid hF; have H2 := Lib.hid h2
  obtain ⟨ao, b, off, cap, rfl, hl, hx, hy⟩ := slTwo h
  have HWF : Hid (∀ p ∈ l, (-9223372036854775808 ≤ p.1 ∧ p.1 ≤ 9223372036854775807) ∧ (-9223372036854775808 ≤ p.2 ∧ p.2 ≤ 9223372036854775807)) := Lib.hid (fun p hp => by
    obtain ⟨i, hi, rfl⟩ := List.getElem_of_mem hp
    have := hy i hi
    have e : l.getD i (0, 0) = l[i] := by simp [List.getD, List.getElem?_eq_getElem hi]
    rw [e] at this
    exact this.2.2)
  have HL := Lib.hid hl
  have e1 : Gt.putE l c n l2 = Gt.err l c n := by rw [Gt.putE, if_pos he]
  have HP := fun (w' : World) (h : (Enc.two.sl 16).R (fun b => b < w'.heap.size) w' [.slice ao l.length cap] l ∧ (Enc.two.sl 16).R (fun b => b < w'.heap.size) w' [v2] l2) => put_any c n w' (fun b hb => hb) h.1 h.2
  have HGr := fun (w' : World) (h : (Enc.two.sl 16).R (fun b => b < w'.heap.size) w' [.slice ao l.length cap] l) => grant_bad c n k hk0 hk1 w' (fun b hb => hb) h he
  have HT := fun (w' : World) (h : (Enc.two.sl 16).R (fun b => b < w'.heap.size) w' [.slice ao l.length cap] l) => take_bad c n m hm0 hm1 w' (fun b hb => hb) h he
  have HR := fun (w' : World) (h : (Enc.two.sl 16).R (fun b => b < w'.heap.size) w' [.slice ao l.length cap] l) => rgate_any c n w' (fun b hb => hb) h
  have HC := fun (w' : World) (h : (Enc.two.sl 16).R (fun b => b < w'.heap.size) w' [.slice ao l.length cap] l) => gateCheck_any c n w' (fun b hb => hb) h
  rw [e1, if_neg he] at HP
  have hnz : (Gt.err l c n == 0) = false := by rw [beq_eq_false_iff_ne]; exact he
  have hnz2 : (Gt.err l c n != 0) = true := by rw [bne_iff_ne]; exact he
  clear e1 h h2 hF hx hy hl he
  generalize hE : Gt.err l c n = E at *
  clear hE
  replace HP := Lib.hid HP; replace HGr := Lib.hid HGr; replace HT := Lib.hid HT; replace HR := Lib.hid HR; replace HC := Lib.hid HC
  have hst := (St.init w).alloc #[.slice ao l.length cap, .int .i64 c, .int .i64 n] 42
  have HG : Hid (∀ W', Below w.heap.size w W' → (Enc.two.sl 16).R (fun b => b < W'.heap.size) W' [.slice ao l.length cap] l ∧ (Enc.two.sl 16).R (fun b => b < W'.heap.size) W' [v2] l2) := Lib.hid (fun W' hW => ⟨Enc.mono _ H.out (fun b hb => Nat.lt_of_lt_of_le (HF.out b hb) hW.size) (fun b hb => hW.block b (HF.out b hb)), Enc.mono _ H2.out (fun b hb => Nat.lt_of_lt_of_le (HF.out b hb) hW.size) (fun b hb => hW.block b (HF.out b hb))⟩)
  go_enter Try.func5, Try.ntmps5
  go_wp2_with (fail)
  go_at_call 20
  refine (HR.out _ (HG.out _ hst.bel).1).mono ?_
  rintro e w1 ⟨rfl, hb1⟩
  have hst1 := hst.call hb1
  obtain ⟨g0, g1, g2, _, _, _⟩ := hst1.cel3
  clear hst hb1
  go_wp2_with (fail)
  go_at_call 21
  refine (HP.out _ (HG.out _ hst1.bel)).mono ?_
  rintro e w2 ⟨a2, m2, c2, rfl, ho2, hb2⟩
  have hst3 := (hst1.pushOwn hb2 ho2).alloc #[.slice a2 m2 c2, .int .i64 c, .int .i64 n] 42
  obtain ⟨g0, g1, g2, _, _, _⟩ := hst3.get3.cel3
  clear hst1 ho2 hb2
  go_wp2_with (fail)
  go_at_call 22
  refine (HGr.out _ (HG.out _ hst3.bel).1).mono ?_
  rintro e w4 ⟨a4, m4, c4, rfl, ho4, hb4⟩
  have hst5 := (hst3.pushOwn hb4 ho4).alloc #[.slice a4 m4 c4, .int .i64 c, .int .i64 n] 42
  obtain ⟨g0, g1, g2, _, _, _⟩ := hst5.get5.cel3
  clear hst3 ho4 hb4
  go_wp2_with (fail)
  go_at_call 23
  refine (HT.out _ (HG.out _ hst5.bel).1).mono ?_
  rintro e w6 ⟨a6, m6, c6, v6, rfl, ho6⟩
  obtain ⟨a7, c7, rfl⟩ : ∃ a c, v6 = .slice a 0 c := ho6.get2.own.isLen
  have hst7 := (hst5.join ho6).alloc #[.slice a6 m6 c6, .int .i64 c, .int .i64 n] 42
  obtain ⟨g0, g1, g2, _, _, _⟩ := (hst7.one (A := aCel w.heap.size 42 #[.slice ao l.length cap, .int .i64 c, .int .i64 n]) (by repeat (first | exact .head _ | apply List.Mem.tail))).cel3
  clear hst5 ho6
  go_wp2_with (fail)
  go_at_call 24
  refine (HC.out _ (HG.out _ hst7.bel).1).mono ?_
  rintro e w8 ⟨rfl, hb8⟩
  have hst8 := hst7.call hb8
  clear hst7 hb8 g0 g1 g2
  have HK : Hid (∀ W', Below w8.heap.size w8 W' → (W'.cell? ⟨w.heap.size, 0, none⟩ = some (.slice ao l.length cap) ∧ W'.cell? ⟨w.heap.size, 1, none⟩ = some (.int .i64 c) ∧ W'.cell? ⟨w.heap.size, 2, none⟩ = some (.int .i64 n)) ∧
          (W'.cell? ⟨w2.heap.size, 0, none⟩ = some (.slice a2 m2 c2) ∧ W'.cell? ⟨w2.heap.size, 1, none⟩ = some (.int .i64 c) ∧ W'.cell? ⟨w2.heap.size, 2, none⟩ = some (.int .i64 n) ∧ (Enc.two.sl 16).R (fun b => b < W'.heap.size) W' [.slice a2 m2 c2] l) ∧
          (W'.cell? ⟨w4.heap.size, 0, none⟩ = some (.slice a4 m4 c4) ∧ W'.cell? ⟨w4.heap.size, 1, none⟩ = some (.int .i64 c) ∧ W'.cell? ⟨w4.heap.size, 2, none⟩ = some (.int .i64 n) ∧ (Enc.two.sl 16).R (fun b => b < W'.heap.size) W' [.slice a4 m4 c4] l) ∧
          (W'.cell? ⟨w6.heap.size, 0, none⟩ = some (.slice a6 m6 c6) ∧ W'.cell? ⟨w6.heap.size, 1, none⟩ = some (.int .i64 c) ∧ W'.cell? ⟨w6.heap.size, 2, none⟩ = some (.int .i64 n) ∧ (Enc.two.sl 16).R (fun b => b < W'.heap.size) W' [.slice a6 m6 c6] l) ∧ Below w.heap.size w W') := Lib.hid (fun W' hW => by
            have h9 := hst8.call hW
            have k1 := (h9.one (A := aCel w.heap.size 42 #[.slice ao l.length cap, .int .i64 c, .int .i64 n]) (by repeat (first | exact .head _ | apply List.Mem.tail))).cel3
            refine ⟨⟨k1.1, k1.2.1, k1.2.2.1⟩, ?_, ?_, ?_, h9.bel⟩
            · exact h9.gate (T := 42) (e := 39) (g := w2.heap.size) (v := .slice a2 m2 c2) (v1 := .int .i64 c) (v2 := .int .i64 n) (by repeat (first | exact .head _ | apply List.Mem.tail)) (by repeat (first | exact .head _ | apply List.Mem.tail)) HL.out HWF.out
            · exact h9.gate (T := 42) (e := 39) (g := w4.heap.size) (v := .slice a4 m4 c4) (v1 := .int .i64 c) (v2 := .int .i64 n) (by repeat (first | exact .head _ | apply List.Mem.tail)) (by repeat (first | exact .head _ | apply List.Mem.tail)) HL.out HWF.out
            · exact h9.gate (T := 42) (e := 39) (g := w6.heap.size) (v := .slice a6 m6 c6) (v1 := .int .i64 c) (v2 := .int .i64 n) (by repeat (first | exact .head _ | apply List.Mem.tail)) (by repeat (first | exact .head _ | apply List.Mem.tail)) HL.out HWF.out)
  obtain ⟨⟨_, _, _⟩, ⟨_, _, _, K2⟩, ⟨_, _, _, K4⟩, ⟨_, _, _, K6⟩, _⟩ := HK.out _ (Below.refl _ _)
  replace K2 := Lib.hid K2; replace K4 := Lib.hid K4; replace K6 := Lib.hid K6
  clear hst8
  go_wp2_with (fail)
  go_at_call 25
  have hk := HK.out _ (Below.refl _ _)
  refine (sameGate_any c n _ (fun b hb => hb) (fun b hb => hb) hk.2.1.2.2.2 (HG.out _ hk.2.2.2.2).1).mono ?_
  rintro e w9 ⟨rfl, hb9⟩
  have hB9 := hb9
  clear hk hb9
  obtain ⟨⟨_, _, _⟩, ⟨_, _, _, _⟩, ⟨_, _, _, _⟩, ⟨_, _, _, _⟩, _⟩ := HK.out _ hB9
  go_wp2_with (fail)
  go_at_call 25
  have hk := HK.out _ hB9
  refine (sameGate_any c n _ (fun b hb => hb) (fun b hb => hb) hk.2.2.1.2.2.2 (HG.out _ hk.2.2.2.2).1).mono ?_
  rintro e w10 ⟨rfl, hb10⟩
  have hB10 := hB9.trans (hb10.mono hB9.size)
  clear hk hb10
  obtain ⟨⟨_, _, _⟩, ⟨_, _, _, _⟩, ⟨_, _, _, _⟩, ⟨_, _, _, _⟩, _⟩ := HK.out _ hB10
  go_wp2_with (fail)
  go_at_call 25
  have hk := HK.out _ hB10
  refine (sameGate_any c n _ (fun b hb => hb) (fun b hb => hb) hk.2.2.2.1.2.2.2 (HG.out _ hk.2.2.2.2).1).mono ?_
  rintro e w11 ⟨rfl, hb11⟩
  have hB11 := hB10.trans (hb11.mono hB10.size)
  clear hk hb11
  go_wp2_with (fail)
  go_ret
  exact ⟨by simp, (HK.out _ hB11).2.2.2.2⟩
end Go.Proofs.Ytkgpipokfoadiaa
