/-
  The closure of step of package places: marks the places of a list that have the byte.
-/
import Derived.Test.YtldapomcjfkeeaaPosnChk
namespace Go.Proofs.Ytldapomcjfkeeaa
set_option linter.unusedVariables false
open Go.ChangeShapes Go.WideShapes Go.ChangeAt Go.RowKit

namespace Pl
def mark1 (cl : List (List Int)) (b : Nat) (I : List Bool) (x : Int) : List Bool := I.set x.toNat (I.getD x.toNat false || has (cl.getD x.toNat []) b)
def markL (cl : List (List Int)) (b : Nat) (I : List Bool) (l : List Int) : List Bool := l.foldl (mark1 cl b) I
theorem mark1_len {cl b I x} : (mark1 cl b I x).length = I.length := by simp [mark1]
theorem markL_len {cl b} {l : List Int} : ∀ {I}, (markL cl b I l).length = I.length := by
  induction l with
  | nil => intro I; rfl
  | cons x r ih => intro I; show (markL cl b (mark1 cl b I x) r).length = _; rw [ih, mark1_len]
theorem markL_step {cl b I} {l : List Int} {k : Nat} (h : k < l.length) : markL cl b I (l.take (k + 1)) = mark1 cl b (markL cl b I (l.take k)) (l.getD k 0) := by
  unfold markL
  rw [List.take_succ_eq_append_getElem h, List.foldl_append]
  simp [List.getD, List.getElem?_eq_getElem h]
theorem markL_nil {cl b I} : markL cl b I [] = I := rfl
theorem mark1_get {cl b I} {x : Nat} (y : Nat) (hx : x < I.length) : (mark1 cl b I (x : Int)).getD y false = (I.getD y false || (decide (x = y) && has (cl.getD y []) b)) := by
  unfold mark1
  rw [Int.toNat_natCast]
  by_cases h : x = y
  · subst h
    simp [List.getD, hx]
  · simp [List.getD, List.getElem?_set_ne h, h]
theorem markL_get {cl b} {l : List Int} : ∀ {I} (y : Nat), (∀ x ∈ l, 0 ≤ x ∧ x < I.length) → (markL cl b I l).getD y false = (I.getD y false || (l.contains (y : Int) && has (cl.getD y []) b)) := by
  induction l with
  | nil => intro I y _; simp [markL]
  | cons x r ih =>
    intro I y h
    have hx := h x (.head _)
    obtain ⟨x, rfl⟩ := Int.eq_ofNat_of_zero_le hx.1
    show (markL cl b (mark1 cl b I x) r).getD y false = _
    rw [ih y (fun z hz => by rw [mark1_len]; exact h z (.tail _ hz)), mark1_get y (by omega)]
    rw [List.contains_cons]
    by_cases h2 : x = y
    · subst h2
      cases I.getD x false <;> cases has (cl.getD x []) b <;> simp
    · have h3 : ((y : Int) == (x : Int)) = false := by rw [beq_eq_false_iff_ne]; omega
      rw [h3]; simp [h2]
end Pl
attribute [irreducible] Pl.mark1 Pl.markL

def boolsA (I : List Bool) : Array Value := (I.map Value.bool).toArray
theorem boolsA_get {I : List Bool} {x : Nat} (h : x < I.length) : (boolsA I)[x]? = some (.bool (I.getD x false)) := by
  unfold boolsA
  rw [List.getElem?_toArray, List.getElem?_map, List.getElem?_eq_getElem h]
  simp [List.getD, List.getElem?_eq_getElem h]
theorem boolsA_set {I : List Bool} {x : Nat} {v : Bool} : (boolsA I).setIfInBounds x (.bool v) = boolsA (I.set x v) := by
  unfold boolsA
  apply Array.toList_inj.1
  simp [List.map_set]
theorem four {l : List Int} (h : l.length = 4) : ∃ a b c d, l = [a, b, c, d] := by
  match l, h with
  | [a, b, c, d], _ => exact ⟨a, b, c, d, rfl⟩

set_option maxRecDepth 100000 in
set_option maxHeartbeats 4000000 in
theorem mark_any (w0 : World) (D Bx Px : Nat) (b : Nat) (hb : b < 256) (vc vr vi vo vl ve v : Value) (cl : List (List Int)) (l : List Int) (I : List Bool) (μ : List Asrt) (w : World) (F : Nat → Prop) (h1 : ((Enc.row .u64 4).sl 32).R F w0 [vc] cl) (h2 : ((Enc.int .i64).sl 8).R F w0 [v] l)
    (hI : I.length = 200) (hcl : cl.length ≤ 200) (hm : ∀ x ∈ l, 0 ≤ x ∧ x < cl.length) (hst : St w0 w (aCel D 236 (boolsA I) :: aCel Bx 5 #[.int .u8 b] :: aCel Px 56 #[vc, vr, vi, vo, vl, ve] :: μ)) :
    Calls Try.prog 138 #[v, .pointer (some ⟨D, 0, none⟩), .pointer (some ⟨Px, 0, none⟩), .pointer (some ⟨Bx, 0, none⟩)] w fun e w' => e = .returned (.tuple #[]) ∧ St w0 w' (aCel D 236 (boolsA (Pl.markL cl b I l)) :: aCel Bx 5 #[.int .u8 b] :: aCel Px 56 #[vc, vr, vi, vo, vl, ve] :: μ) := by
  obtain ⟨ac, bc, oc, cc, rfl, -, k3, k4⟩ := slCls h1
  obtain ⟨al, bl, ol, cl', rfl, hl, l3, l4⟩ := slInt h2
  have hll : (l.length : Int) ≤ 140737488355328 := by omega
  have K3 := Lib.hid k3; have K4 := Lib.hid k4; have L3 := Lib.hid l3; have L4 := Lib.hid l4; have HM := Lib.hid hm
  clear h1 h2 k3 k4 l3 l4 hm hl
  have HST0 := Lib.hid hst
  clear hst
  go_enter Try.func138, Try.ntmps138
  go_wp2
  go_loopw [6, 9] (fun _ i wr => ∃ k : Nat, k ≤ l.length ∧ i = .int .i64 k ∧ St w0 wr (aCel D 236 (boolsA (Pl.markL cl b I (l.take k))) :: aCel Bx 5 #[.int .u8 b] :: aCel Px 56 #[.slice ac cl.length cc, vr, vi, vo, vl, ve] :: μ)) (fun _ i _ => l.length - (intOf i).toNat)
  case atStart => exact ⟨0, by omega, rfl, by rw [List.take_zero, Pl.markL_nil]; exact HST0.out⟩
  case round =>
    clear HST0
    obtain ⟨k, hk, rfl, hst⟩ := hrel
    by_cases hlt : k < l.length
    · obtain ⟨rfl, _, _⟩ := L3.out (by omega)
      obtain ⟨c1, -⟩ := L4.out k hlt
      have hmx := HM.out (l.getD k 0) (by rw [show l.getD k 0 = l[k] by simp [List.getD, List.getElem?_eq_getElem hlt]]; exact List.getElem_mem hlt)
      have hstep := Pl.markL_step (cl := cl) (b := b) (I := I) hlt
      have hlen := Pl.markL_len (cl := cl) (b := b) (I := I) (l := l.take k)
      obtain ⟨x, hx⟩ : ∃ x : Nat, l.getD k 0 = x := Int.eq_ofNat_of_zero_le hmx.1
      rw [hx] at c1 hmx hstep
      have hxl : x < cl.length := by omega
      obtain ⟨rfl, _, _⟩ := K3.out (by omega)
      obtain ⟨e1, e2, e3⟩ := K4.out x hxl
      have HSTEP := Lib.hid hstep
      generalize Pl.markL cl b I (l.take k) = J at *
      have c1 := bkeep hst.bel c1
      have hJ : x < J.length := by omega
      have j1 := hst.celAt (boolsA_get hJ)
      have jf := hst.celFree x
      have b1 := (hst.nth 1 rfl).celAt (i := 0) rfl
      have p1 := (hst.nth 2 rfl).celAt (i := 0) rfl
      have hx200 : (x : Int) < 200 := by omega
      have hx0 : (0 : Int) ≤ (x : Int) := by omega
      have hxc : (x : Int) < cl.length := by omega
      have hlt2 : (k : Int) < l.length := by omega
      cases hv : J.getD x false
      · rw [hv] at j1
        obtain ⟨q0, q1, q2, q3, hq⟩ := four e2
        have hc := has_any #[.int .u64 q0, .int .u64 q1, .int .u64 q2, .int .u64 q3] (cl.getD x []) b hb
        rw [hq] at hc e1 e3
        have HC := Lib.hid (fun (W : World) => hc W rfl rfl e3)
        obtain ⟨B, hB⟩ : ∃ B, Pl.has [q0, q1, q2, q3] b = B := ⟨_, rfl⟩
        rw [hB] at HC
        have hnext : (boolsA J).setIfInBounds x (.bool B) = boolsA (Pl.mark1 cl b J x) := by
          rw [boolsA_set]; unfold Pl.mark1; rw [Int.toNat_natCast, hv, hq, hB]; rfl
        have HNEXT := Lib.hid hnext
        have d0 := bkeep hst.bel (e1 0 (by omega))
        have d1 := bkeep hst.bel (e1 1 (by omega))
        have d2 := bkeep hst.bel (e1 2 (by omega))
        have d3 := bkeep hst.bel (e1 3 (by omega))
        rw [Nat.add_zero] at d0
        replace d0 : wr.cell? ⟨bc, oc + x * 4, none⟩ = some (.int .u64 q0) := d0
        replace d1 : wr.cell? ⟨bc, oc + x * 4 + 1, none⟩ = some (.int .u64 q1) := d1
        replace d2 : wr.cell? ⟨bc, oc + x * 4 + 2, none⟩ = some (.int .u64 q2) := d2
        replace d3 : wr.cell? ⟨bc, oc + x * 4 + 3, none⟩ = some (.int .u64 q3) := d3
        have HST := Lib.hid hst.drew
        clear hst hnext e1 e2 e3 hstep hlen hx hv hI hq hc hB
        go_wp2
        go_region_with ((go_at_call 139; refine (HC.out _).mono ?_; rintro e w2 ⟨rfl, hb2⟩; have hst2 := HST.out.call hb2; have jf2 := hst2.celFree x; have j2 := hst2.celAt (boolsA_get hJ)))
        all_goals
          have hst3 := hst2.setCel x (.bool B)
          rw [HNEXT.out] at hst3
          go_wp2
          go_roundw
          case rel => exact ⟨k + 1, by omega, by go_num, by rw [HSTEP.out]; exact hst3⟩
          case measure => simp [intOf]; omega
      · rw [hv] at j1
        have hnext : (boolsA J).setIfInBounds x (.bool true) = boolsA (Pl.mark1 cl b J x) := by
          rw [boolsA_set]; unfold Pl.mark1; rw [Int.toNat_natCast, hv]; rfl
        have hst2 := hst.setCel x (.bool true)
        rw [hnext] at hst2
        have HST2 := Lib.hid hst2.drew
        clear hst hst2 hnext e1 e2 e3 hstep hlen hx hv hI
        go_wp2
        go_region
        go_wp2
        go_roundw
        case rel => exact ⟨k + 1, by omega, by go_num, by rw [HSTEP.out]; exact HST2.out⟩
        case measure => simp [intOf]; omega
    · obtain rfl : k = l.length := by omega
      rw [List.take_length] at hst
      have HST := Lib.hid hst
      clear hst
      go_wp2
      go_end0
      exact ⟨rfl, HST.out⟩
end Go.Proofs.Ytldapomcjfkeeaa
