/-
  slices.Equal over truths, over numbers: whether two lists are the same.
-/
import Derived.Test.YtlgabpcddldelaaFcW
namespace Go.Proofs.Ytlgabpcddldelaa
set_option linter.unusedVariables false
set_option linter.unusedSimpArgs false
open Go.ChangeShapes Go.WideShapes Go.ChangeAt Go.RowKit

/-- A slice whose one-cell elements read as a list. -/
def Row1 {α : Type} (f : α → Value) (d : α) (w : World) (v : Value) (l : List α) : Prop :=
  ∃ (a : Option Addr) (b o c : Nat), v = .slice a l.length c ∧ (l.length : Int) ≤ 140737488355328 ∧ (0 < l.length → a = some ⟨b, o, none⟩) ∧ ∀ k, k < l.length → w.cell? ⟨b, o + k, none⟩ = some (f (l.getD k d))
theorem Row1.nil {α : Type} {f : α → Value} {d : α} {w : World} : Row1 f d w (.slice none 0 0) [] := ⟨none, 0, 0, 0, rfl, by simp, fun h => by simp at h, fun k h => by simp at h⟩
theorem Own.row1 {α : Type} {f : α → Value} (hf : ∀ a, (f a).cells = #[f a]) (d : α) {w : World} {B : Nat} {e : TypeId} {v : Value} {l : List α} (h : Own w B e 1 v (l.map f)) (hl : (l.length : Int) ≤ 140737488355328) : Row1 f d w v l := by
  rcases h.shape with ⟨h1, h2⟩ | ⟨g, cap, h1, _⟩
  · have : l = [] := by simpa using h2
    subst this; subst h1
    exact Row1.nil
  · rw [List.length_map] at h1
    subst h1
    refine ⟨_, g, 0, cap, rfl, hl, fun _ => rfl, fun k hk => ?_⟩
    rw [Nat.zero_add]
    exact (Own.cellAt hf h k hk d).1
theorem Row1.below {α : Type} {f : α → Value} {d : α} {w w' : World} {v : Value} {l : List α} (h : Row1 f d w v l) (hb : Below w.heap.size w w') : Row1 f d w' v l := by
  obtain ⟨a, b, o, c, h1, h2, h3, h4⟩ := h
  exact ⟨a, b, o, c, h1, h2, h3, fun k hk => bkeep hb (h4 k hk)⟩
theorem drop_dec {α : Type} [DecidableEq α] {l1 l2 : List α} {k : Nat} (h1 : k < l1.length) (h2 : k < l2.length) (d : α) : decide (l1.drop k = l2.drop k) = (decide (l1.getD k d = l2.getD k d) && decide (l1.drop (k + 1) = l2.drop (k + 1))) := by
  rw [Fc.drop_at h1 d, Fc.drop_at h2 d, Bool.eq_iff_iff, Bool.and_eq_true, decide_eq_true_eq, decide_eq_true_eq, decide_eq_true_eq, List.cons.injEq]

set_option maxRecDepth 100000 in
set_option maxHeartbeats 1600000 in
theorem eqU64 {v1 v2 : Value} {l1 l2 : List Nat} (w : World) (h1 : Row1 Fc.uV 0 w v1 l1) (h2 : Row1 Fc.uV 0 w v2 l2) :
    Calls Try.prog 87 #[v1, v2] w fun e w' => e = .returned (.bool (decide (l1 = l2))) ∧ Below w.heap.size w w' := by
  obtain ⟨a1, b1, o1, c1, rfl, k1, k3, k4⟩ := h1
  obtain ⟨a2, b2, o2, c2, rfl, g1, g3, g4⟩ := h2
  have K3 := Lib.hid k3; have K4 := Lib.hid k4; have G3 := Lib.hid g3; have G4 := Lib.hid g4
  obtain ⟨R, hR⟩ : ∃ R, decide (l1 = l2) = R := ⟨_, rfl⟩
  rw [hR]
  clear k3 k4 g3 g4
  by_cases hlen : l1.length = l2.length
  · have hne : ((l1.length : Int) != (l2.length : Int)) = false := by rw [bne_eq_false_iff_eq]; omega
    have hle : (l1.length : Int) ≤ l2.length := by omega
    have HR : Hid (decide (l1.drop 0 = l2.drop 0) = R) := Lib.hid hR
    have HLEN := Lib.hid hlen
    clear hR hlen
    go_enter Try.func87, Try.ntmps87
    go_wp2
    go_loopg [5, 13] l1.length (fun gk _ i wr => ∃ k : Nat, k ≤ l1.length ∧ gk = l1.length - k ∧ i = .int .i64 k ∧ Below w.heap.size w wr ∧ Hid (decide (l1.drop k = l2.drop k) = R))
    case atStart => exact ⟨0, by omega, by omega, rfl, Below.refl _ _, HR⟩
    case round =>
      clear HR
      obtain ⟨k, hk, hgk, rfl, hB, HR⟩ := hrel
      have HGK := Lib.hid hgk
      clear hgk
      by_cases hlt : k < l1.length
      · have hlt2 : k < l2.length := by have := HLEN.out; omega
        obtain rfl := K3.out (by omega)
        obtain rfl := G3.out (by omega)
        have hc1 := bkeep hB (K4.out k hlt)
        have hc2 := bkeep hB (G4.out k hlt2)
        have hr := HR.out
        rw [drop_dec hlt hlt2 0] at hr
        generalize l1.getD k 0 = x at hc1 hr
        generalize l2.getD k 0 = y at hc2 hr
        have hk1 : (k : Int) < l1.length := by omega
        have hk2 : (k : Int) < l2.length := by omega
        replace hc1 : wr.cell? ⟨b1, o1 + k, none⟩ = some (.int .u64 (x : Int)) := hc1
        replace hc2 : wr.cell? ⟨b2, o2 + k, none⟩ = some (.int .u64 (y : Int)) := hc2
        by_cases hxy : x = y
        · rw [decide_eq_true hxy, Bool.true_and] at hr
          subst hxy
          have hne2 : ((x : Int) != (x : Int)) = false := by simp
          have HR2 := Lib.hid hr
          clear HR hr K3 K4 G3 G4
          go_wp2
          go_quiet (fail)
          go_wp2
          go_roundg (l1.length - (k + 1))
          case rel => exact ⟨k + 1, by omega, rfl, by go_num, below_drewN hB _, HR2⟩
          case measure => have := HGK.out; omega
        · rw [decide_eq_false hxy, Bool.false_and] at hr
          subst hr
          have hne2 : ((x : Int) != (y : Int)) = true := by rw [bne_iff_ne]; exact fun e => hxy (by omega)
          clear HR K3 K4 G3 G4 hxy
          go_wp2
          go_quiet (fail)
          go_wp2
          go_ret
          exact ⟨rfl, below_drewN hB _⟩
      · obtain rfl : k = l1.length := by omega
        have hr := HR.out
        rw [List.drop_length, HLEN.out, List.drop_length] at hr
        have hr2 : true = R := by rw [← hr]; simp
        subst hr2
        clear K3 K4 G3 G4 hr HR
        go_wp2
        go_ret
        exact ⟨rfl, hB⟩
  · have hne : ((l1.length : Int) != (l2.length : Int)) = true := by rw [bne_iff_ne]; omega
    have hr2 : false = R := by rw [← hR, decide_eq_false (fun e => hlen (by rw [e]))]
    subst hr2
    clear hR hlen K3 K4 G3 G4
    go_enter Try.func87, Try.ntmps87
    go_wp2
    go_ret
    exact ⟨rfl, Below.refl _ _⟩

set_option maxRecDepth 100000 in
set_option maxHeartbeats 1600000 in
theorem eqBools {v1 v2 : Value} {l1 l2 : List Bool} (w : World) (h1 : Row1 Value.bool false w v1 l1) (h2 : Row1 Value.bool false w v2 l2) :
    Calls Try.prog 61 #[v1, v2] w fun e w' => e = .returned (.bool (decide (l1 = l2))) ∧ Below w.heap.size w w' := by
  obtain ⟨a1, b1, o1, c1, rfl, k1, k3, k4⟩ := h1
  obtain ⟨a2, b2, o2, c2, rfl, g1, g3, g4⟩ := h2
  have K3 := Lib.hid k3; have K4 := Lib.hid k4; have G3 := Lib.hid g3; have G4 := Lib.hid g4
  obtain ⟨R, hR⟩ : ∃ R, decide (l1 = l2) = R := ⟨_, rfl⟩
  rw [hR]
  clear k3 k4 g3 g4
  by_cases hlen : l1.length = l2.length
  · have hne : ((l1.length : Int) != (l2.length : Int)) = false := by rw [bne_eq_false_iff_eq]; omega
    have hle : (l1.length : Int) ≤ l2.length := by omega
    have HR : Hid (decide (l1.drop 0 = l2.drop 0) = R) := Lib.hid hR
    have HLEN := Lib.hid hlen
    clear hR hlen
    go_enter Try.func61, Try.ntmps61
    go_wp2
    go_loopg [5, 13] l1.length (fun gk _ i wr => ∃ k : Nat, k ≤ l1.length ∧ gk = l1.length - k ∧ i = .int .i64 k ∧ Below w.heap.size w wr ∧ Hid (decide (l1.drop k = l2.drop k) = R))
    case atStart => exact ⟨0, by omega, by omega, rfl, Below.refl _ _, HR⟩
    case round =>
      clear HR
      obtain ⟨k, hk, hgk, rfl, hB, HR⟩ := hrel
      have HGK := Lib.hid hgk
      clear hgk
      by_cases hlt : k < l1.length
      · have hlt2 : k < l2.length := by have := HLEN.out; omega
        obtain rfl := K3.out (by omega)
        obtain rfl := G3.out (by omega)
        have hc1 := bkeep hB (K4.out k hlt)
        have hc2 := bkeep hB (G4.out k hlt2)
        have hr := HR.out
        rw [drop_dec hlt hlt2 false] at hr
        generalize l1.getD k false = x at hc1 hr
        generalize l2.getD k false = y at hc2 hr
        have hk1 : (k : Int) < l1.length := by omega
        have hk2 : (k : Int) < l2.length := by omega

        by_cases hxy : x = y
        · rw [decide_eq_true hxy, Bool.true_and] at hr
          subst hxy
          have hne2 : (x != x) = false := by simp
          have HR2 := Lib.hid hr
          clear HR hr K3 K4 G3 G4
          go_wp2
          go_quiet (fail)
          go_wp2
          go_roundg (l1.length - (k + 1))
          case rel => exact ⟨k + 1, by omega, rfl, by go_num, below_drewN hB _, HR2⟩
          case measure => have := HGK.out; omega
        · rw [decide_eq_false hxy, Bool.false_and] at hr
          subst hr
          have hxy2 : y = !x := by cases x <;> cases y <;> simp_all
          subst hxy2
          cases x <;> simp only [Bool.not_true, Bool.not_false] at hc2
          all_goals
            clear HR K3 K4 G3 G4 hxy
            go_wp2
            go_quiet (fail)
            go_wp2
            go_ret
            exact ⟨rfl, below_drewN hB _⟩
      · obtain rfl : k = l1.length := by omega
        have hr := HR.out
        rw [List.drop_length, HLEN.out, List.drop_length] at hr
        have hr2 : true = R := by rw [← hr]; simp
        subst hr2
        clear K3 K4 G3 G4 hr HR
        go_wp2
        go_ret
        exact ⟨rfl, hB⟩
  · have hne : ((l1.length : Int) != (l2.length : Int)) = true := by rw [bne_iff_ne]; omega
    have hr2 : false = R := by rw [← hR, decide_eq_false (fun e => hlen (by rw [e]))]
    subst hr2
    clear hR hlen K3 K4 G3 G4
    go_enter Try.func61, Try.ntmps61
    go_wp2
    go_ret
    exact ⟨rfl, Below.refl _ _⟩
end Go.Proofs.Ytlgabpcddldelaa
