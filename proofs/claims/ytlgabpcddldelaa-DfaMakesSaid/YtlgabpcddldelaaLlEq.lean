/-
  slices.Equal over ints, over alike clashes; slices.EqualFunc over alike rows.
-/
import Derived.Test.YtlgabpcddldelaaFcEq
import Derived.Test.YtlgabpcddldelaaSepPick
namespace Go.Proofs.Ytlgabpcddldelaa
set_option linter.unusedVariables false
set_option linter.unusedSimpArgs false
open Go.ChangeShapes Go.WideShapes Go.ChangeAt Go.RowKit

namespace Ll
def iV (x : Int) : Value := .int .i64 x
abbrev SV := Option Addr × Nat × Nat
def slV (s : SV) : Value := .slice s.1 s.2.1 s.2.2
/-- A clash: Non, Col, A, B. -/
abbrev C4 := Int × Int × Int × Int
def clV (c : C4) : Value := .agg #[.int .i64 c.1, .int .i64 c.2.1, .int .i64 c.2.2.1, .int .i64 c.2.2.2]
end Ll
/-- A slice whose elements of 'size' cells read as a list. -/
def RowN {α : Type} (f : α → Value) (size : Nat) (d : α) (w : World) (v : Value) (l : List α) : Prop :=
  ∃ (a : Option Addr) (b o c : Nat), v = .slice a l.length c ∧ (l.length : Int) ≤ 140737488355328 ∧ (0 < l.length → a = some ⟨b, o, none⟩) ∧ ∀ k, k < l.length → ∀ j, j < size → w.cell? ⟨b, o + k * size + j, none⟩ = (f (l.getD k d)).cells[j]?
theorem RowN.nil {α : Type} {f : α → Value} {size : Nat} {d : α} {w : World} : RowN f size d w (.slice none 0 0) [] := ⟨none, 0, 0, 0, rfl, by simp, fun h => by simp at h, fun k h => by simp at h⟩
theorem Own.rowN {α : Type} {f : α → Value} {size : Nat} (hf : ∀ a, (f a).cells.size = size) (d : α) {w : World} {B : Nat} {e : TypeId} {v : Value} {l : List α} (h : Own w B e size v (l.map f)) (hl : (l.length : Int) ≤ 140737488355328) : RowN f size d w v l := by
  have hsz : ∀ u ∈ l.map f, u.cells.size = size := by
    intro u hu
    obtain ⟨y, hy, rfl⟩ := List.mem_map.1 hu
    exact hf y
  rcases h.shape with ⟨h1, h2⟩ | ⟨g, cap, h1, _⟩
  · have : l = [] := by simpa using h2
    subst this; subst h1
    exact RowN.nil
  · rw [List.length_map] at h1
    subst h1
    refine ⟨_, g, 0, cap, rfl, hl, fun _ => rfl, fun k hk j hj => ?_⟩
    have hr := h
    unfold Own at hr
    rw [List.length_map] at hr
    have hlt : k * size + j < l.length * size := by
      have : (k + 1) * size ≤ l.length * size := Nat.mul_le_mul_right _ hk
      rw [Nat.add_mul] at this; omega
    have h2 := hr.cellAt (k * size + j) hlt
    have h3 := cellsOf_get hsz k (by rw [List.length_map]; exact hk) j hj
    rw [List.getElem_map] at h3
    rw [Nat.zero_add, h2, h3]
    simp [List.getD, List.getElem?_eq_getElem hk]
theorem RowN.below {α : Type} {f : α → Value} {size : Nat} {d : α} {w w' : World} {v : Value} {l : List α} (h : RowN f size d w v l) (hf : ∀ a, (f a).cells.size = size) (hb : Below w.heap.size w w') : RowN f size d w' v l := by
  obtain ⟨a, b, o, c, h1, h2, h3, h4⟩ := h
  refine ⟨a, b, o, c, h1, h2, h3, fun k hk j hj => ?_⟩
  have h5 := h4 k hk j hj
  rw [Array.getElem?_eq_getElem (by rw [hf]; exact hj)] at h5 ⊢
  exact bkeep hb h5
theorem Row1.below' {α : Type} {f : α → Value} {d : α} {w w' : World} {v : Value} {l : List α} (h : Row1 f d w v l) (hb : Below w.heap.size w w') : Row1 f d w' v l := h.below hb

set_option maxRecDepth 100000 in
set_option maxHeartbeats 1600000 in
theorem eqI64 {v1 v2 : Value} {l1 l2 : List Int} (w : World) (h1 : Row1 Ll.iV 0 w v1 l1) (h2 : Row1 Ll.iV 0 w v2 l2) :
    Calls Try.prog 42 #[v1, v2] w fun e w' => e = .returned (.bool (decide (l1 = l2))) ∧ Below w.heap.size w w' := by
  obtain ⟨a1, b1, o1, c1, rfl, k1, k3, k4⟩ := h1
  obtain ⟨a2, b2, o2, c2, rfl, g1, g3, g4⟩ := h2
  have K3 := Lib.hid k3; have K4 := Lib.hid k4; have G3 := Lib.hid g3; have G4 := Lib.hid g4
  obtain ⟨R, hR⟩ : ∃ R, decide (l1 = l2) = R := ⟨_, rfl⟩
  rw [hR]
  clear k3 k4 g3 g4
  by_cases hlen : l1.length = l2.length
  · have hne : ((l1.length : Int) != (l2.length : Int)) = false := by rw [bne_eq_false_iff_eq]; omega
    have hle : (l1.length : Int) ≤ l2.length := by omega
    have HR : Hid (decide (l1.drop 0 = l2.drop 0) = R) := Lib.hid hR
    have HLEN := Lib.hid hlen
    clear hR hlen
    go_enter Try.func42, Try.ntmps42
    go_wp2
    go_loopg [5, 13] l1.length (fun gk _ i wr => ∃ k : Nat, k ≤ l1.length ∧ gk = l1.length - k ∧ i = .int .i64 k ∧ Below w.heap.size w wr ∧ Hid (decide (l1.drop k = l2.drop k) = R))
    case atStart => exact ⟨0, by omega, by omega, rfl, Below.refl _ _, HR⟩
    case round =>
      clear HR
      obtain ⟨k, hk, hgk, rfl, hB, HR⟩ := hrel
      have HGK := Lib.hid hgk
      clear hgk
      by_cases hlt : k < l1.length
      · have hlt2 : k < l2.length := by have := HLEN.out; omega
        obtain rfl := K3.out (by omega)
        obtain rfl := G3.out (by omega)
        have hc1 := bkeep hB (K4.out k hlt)
        have hc2 := bkeep hB (G4.out k hlt2)
        have hr := HR.out
        rw [drop_dec hlt hlt2 0] at hr
        generalize l1.getD k 0 = x at hc1 hr
        generalize l2.getD k 0 = y at hc2 hr
        have hk1 : (k : Int) < l1.length := by omega
        have hk2 : (k : Int) < l2.length := by omega
        replace hc1 : wr.cell? ⟨b1, o1 + k, none⟩ = some (.int .i64 x) := hc1
        replace hc2 : wr.cell? ⟨b2, o2 + k, none⟩ = some (.int .i64 y) := hc2
        by_cases hxy : x = y
        · rw [decide_eq_true hxy, Bool.true_and] at hr
          subst hxy
          have hne2 : (x != x) = false := by simp
          have HR2 := Lib.hid hr
          clear HR hr K3 K4 G3 G4
          go_wp2
          go_quiet (fail)
          go_wp2
          go_roundg (l1.length - (k + 1))
          case rel => exact ⟨k + 1, by omega, rfl, by go_num, below_drewN hB _, HR2⟩
          case measure => have := HGK.out; omega
        · rw [decide_eq_false hxy, Bool.false_and] at hr
          subst hr
          have hne2 : (x != y) = true := by rw [bne_iff_ne]; exact fun e => hxy (e)
          clear HR K3 K4 G3 G4 hxy
          go_wp2
          go_quiet (fail)
          go_wp2
          go_ret
          exact ⟨rfl, below_drewN hB _⟩
      · obtain rfl : k = l1.length := by omega
        have hr := HR.out
        rw [List.drop_length, HLEN.out, List.drop_length] at hr
        have hr2 : true = R := by rw [← hr]; simp
        subst hr2
        clear K3 K4 G3 G4 hr HR
        go_wp2
        go_ret
        exact ⟨rfl, hB⟩
  · have hne : ((l1.length : Int) != (l2.length : Int)) = true := by rw [bne_iff_ne]; omega
    have hr2 : false = R := by rw [← hR, decide_eq_false (fun e => hlen (by rw [e]))]
    subst hr2
    clear hR hlen K3 K4 G3 G4
    go_enter Try.func42, Try.ntmps42
    go_wp2
    go_ret
    exact ⟨rfl, Below.refl _ _⟩


set_option maxRecDepth 100000 in
set_option maxHeartbeats 1600000 in
theorem eqRowsF {v1 v2 : Value} {L1 L2 : List Ll.SV} {rows : List (List Int)} (w : World) (h1 : Row1 Ll.slV (none, 0, 0) w v1 L1) (h2 : Row1 Ll.slV (none, 0, 0) w v2 L2) (hl1 : L1.length = rows.length) (hl2 : L2.length = rows.length)
    (he : ∀ k, k < rows.length → Row1 Ll.iV 0 w (Ll.slV (L1.getD k (none, 0, 0))) (rows.getD k []) ∧ Row1 Ll.iV 0 w (Ll.slV (L2.getD k (none, 0, 0))) (rows.getD k [])) :
    Calls Try.prog 60 #[v1, v2, .func (.func 42) #[] #[]] w fun e w' => e = .returned (.bool true) ∧ Below w.heap.size w w' := by
  obtain ⟨a1, b1, o1, c1, rfl, hll, k3, k4⟩ := h1
  obtain ⟨a2, b2, o2, c2, rfl, -, g3, g4⟩ := h2
  have K3 := Lib.hid k3; have K4 := Lib.hid k4; have G3 := Lib.hid g3; have G4 := Lib.hid g4; have HE := Lib.hid he; have HL1 := Lib.hid hl1; have HL2 := Lib.hid hl2
  have hne : ((L1.length : Int) != (L2.length : Int)) = false := by rw [bne_eq_false_iff_eq]; omega
  have hle : (L1.length : Int) ≤ L2.length := by omega
  clear k3 k4 g3 g4 he hl1 hl2
  go_enter Try.func60, Try.ntmps60
  go_wp2
  go_loopg [17] L1.length (fun gk i wr => ∃ k : Nat, k ≤ L1.length ∧ gk = L1.length - k ∧ i = .int .i64 k ∧ Below w.heap.size w wr)
  case atStart => exact ⟨0, by omega, by omega, rfl, Below.refl _ _⟩
  case round =>
    obtain ⟨k, hk, hgk, rfl, hB⟩ := hrel
    have HGK := Lib.hid hgk
    clear hgk
    by_cases hlt : k < L1.length
    · have hlt2 : k < L2.length := by have := HL1.out; have := HL2.out; omega
      obtain rfl := K3.out (by omega)
      obtain rfl := G3.out (by omega)
      have hc1 := bkeep hB (K4.out k hlt)
      have hc2 := bkeep hB (G4.out k hlt2)
      obtain ⟨r1, r2⟩ := HE.out k (by have := HL1.out; omega)
      have hk1 : (k : Int) < L1.length := by omega
      have hk2 : (k : Int) < L2.length := by omega
      have HQ := Lib.hid (eqI64 wr (r1.below' hB) (r2.below' hB))
      rw [decide_eq_true rfl] at HQ
      generalize L1.getD k (none, 0, 0) = x at *
      generalize L2.getD k (none, 0, 0) = y at *
      replace hc1 : wr.cell? ⟨b1, o1 + k, none⟩ = some (.slice x.1 x.2.1 x.2.2) := hc1
      replace hc2 : wr.cell? ⟨b2, o2 + k, none⟩ = some (.slice y.1 y.2.1 y.2.2) := hc2
      unfold Ll.slV at HQ
      clear r1 r2 hlt2
      go_wp2_with (fail)
      go_at_call 42
      refine HQ.out.mono ?_
      rintro e w9 ⟨rfl, hb9⟩
      have hB2 := hB.trans (hb9.mono hB.size)
      clear HQ
      go_wp2
      go_roundg (L1.length - (k + 1))
      case rel => exact ⟨k + 1, by omega, rfl, by go_num, hB2⟩
      case measure => have := HGK.out; omega
    · go_wp2
      go_ret
      exact ⟨rfl, hB⟩
end Go.Proofs.Ytlgabpcddldelaa
