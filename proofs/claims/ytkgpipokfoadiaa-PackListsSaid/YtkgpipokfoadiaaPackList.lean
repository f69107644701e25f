/-
  Lists of texts: what List of the program and of the reference compute.
-/
import Derived.Test.YtkgpipokfoadiaaPackText
import Derived.Test.YtkgpipokfoadiaaEncOps
namespace Go.Proofs.Ytkgpipokfoadiaa
set_option linter.unusedVariables false
open Go.ChangeShapes Go.WideShapes Go.ChangeAt Go.RowKit

namespace Lst
def item (s : ByteArray) : ByteArray := strOfNums (Pack.num s.size) ++ s
def cat (l : List ByteArray) : Nat → ByteArray
  | 0 => strOfNums (Pack.num l.length)
  | k + 1 => cat l k ++ item (l.getD k ByteArray.empty)
def Good (l : List ByteArray) : Prop := ∀ i, i < l.length → (l.getD i ByteArray.empty).size ≤ 4096
theorem num_size (n : Int) : (strOfNums (Pack.num n)).size ≤ 10 := by rw [strOfNums_size]; exact Pack.numF_len 10 n
theorem item_size (s : ByteArray) : (item s).size ≤ 10 + s.size := by
  have := num_size s.size
  unfold item; rw [ByteArray.size_append]; omega
theorem cat_size (l : List ByteArray) (k : Nat) (h : ∀ i, i < k → (l.getD i ByteArray.empty).size ≤ 4096) : (cat l k).size ≤ 10 + k * 4106 := by
  induction k with
  | zero => exact num_size _
  | succ k ih =>
    have h1 := ih fun i hi => h i (by omega)
    have h2 := item_size (l.getD k ByteArray.empty)
    have h3 := h k (by omega)
    rw [cat, ByteArray.size_append]; omega
theorem cat_zero (l : List ByteArray) : cat l 0 = strOfNums (Pack.num l.length) := rfl
theorem cat_succ (l : List ByteArray) (k : Nat) : cat l (k + 1) = cat l k ++ item (l.getD k ByteArray.empty) := rfl
theorem item_def (s : ByteArray) : strOfNums (Pack.num s.size) ++ s = item s := rfl
open Classical in
noncomputable def list (l : List ByteArray) : ByteArray × Int := if 100 < l.length ∨ ¬ Good l then (ByteArray.empty, 2) else (cat l l.length, 0)
theorem list_large (l : List ByteArray) (h : 100 < l.length) : list l = (ByteArray.empty, 2) := by rw [list, if_pos (.inl h)]
theorem list_bad (l : List ByteArray) (k : Nat) (hk : k < l.length) (h : 4096 < (l.getD k ByteArray.empty).size) : list l = (ByteArray.empty, 2) := by
  rw [list, if_pos (.inr fun g => by have := g k hk; omega)]
theorem list_ok (l : List ByteArray) (h : ¬ 100 < l.length) (hg : Good l) : list l = (cat l l.length, 0) := by
  rw [list, if_neg (by simp [h, hg])]
end Lst
attribute [irreducible] Lst.list Lst.cat Lst.item

def RetSE (r : ByteArray × Int) (B : Nat) (w : World) (e : Ending) (w' : World) : Prop := e = .returned (.tuple #[.string r.1, .int .i64 r.2]) ∧ Below B w w'

set_option maxRecDepth 100000 in
set_option maxHeartbeats 4000000 in
theorem list_any (l : List ByteArray) (v : Value) (w : World) (F : Nat → Prop) (hF : ∀ b, F b → b < w.heap.size) (h : (Enc.str.sl 16).R F w [v] l) : Calls Try.prog 41 #[v] w (RetSE (Lst.list l) w.heap.size w) := by
  obtain ⟨ao, b, off, cap, rfl, c1, c2, c3⟩ := Enc.sl1 (En := Enc.str) Value.string (fun _ _ _ h => h.1) rfl ByteArray.empty h
  clear h
  have C2 := Lib.hid c2; have C3 := Lib.hid c3
  clear c2 c3
  by_cases h100 : 100 < l.length
  · have HE := Lib.hid (Lst.list_large l h100)
    go_enter Try.func41, Try.ntmps41
    go_wp2
    go_ret2
    exact ⟨by rw [HE.out]; rfl, Below.refl _ _⟩
  · go_enter Try.func41, Try.ntmps41
    go_wp2_with (go_at_call 70; refine (num_any _ (by omega) (by omega) _).mono ?_; rintro e w1 ⟨rfl, hb1⟩)
    rw [← Lst.cat_zero]
    go_loopw [4, 6, 7, 8, 18] (fun o _ _ _ i wr => ∃ k : Nat, k ≤ l.length ∧ i = .int .i64 k ∧ o = .string (Lst.cat l k) ∧ Below w.heap.size w wr ∧ Hid (∀ j, j < k → (l.getD j ByteArray.empty).size ≤ 4096)) (fun _ _ _ _ i _ => l.length - (intOf i).toNat)
    case atStart => exact ⟨0, by omega, rfl, rfl, hb1, Lib.hid (fun j hj => by omega)⟩
    case round =>
      clear hb1
      obtain ⟨k, hk, rfl, rfl, hB, hgd⟩ := hrel
      by_cases hlt : k < l.length
      · obtain ⟨rfl, _, _⟩ := C2.out (by omega)
        have hcell := bkeep hB (C3.out k hlt).1
        have hsz := (C3.out k hlt).2.2
        have hcs := Lst.cat_size l k hgd.out
        have hit := Lst.item_size (l.getD k ByteArray.empty)
        have hsc := Lib.hid (Lst.cat_succ l k)
        generalize hx : l.getD k ByteArray.empty = x at *
        have HX := Lib.hid hx; clear hx
        by_cases hl : 4096 < x.size
        · have HE := Lib.hid (Lst.list_bad l k hlt (by rw [HX.out]; exact hl))
          go_wp2_with (go_at_call 87; refine (text_large x (by unfold maxLen; omega) hl _).mono ?_; rintro e w2 ⟨rfl, rfl⟩)
          go_ret2
          exact ⟨by rw [HE.out]; rfl, hB⟩
        · have hadd := fun W => run_string_add_sum (P := Try.prog) W (Lst.cat l k) (Lst.item x) (by omega)
          clear hcs hit
          go_wp2_with (go_at_call 87; refine (text_small x (by omega) _).mono ?_; rintro e w2 ⟨rfl, hb2⟩; rw [Lst.item_def])
          go_roundw
          case rel => exact ⟨k + 1, by omega, by go_num, by rw [hsc.out], hB.trans (hb2.mono hB.size), Lib.hid (fun j hj => by
            rcases Nat.lt_succ_iff_lt_or_eq.1 hj with hj | rfl
            · exact hgd.out j hj
            · rw [HX.out]; omega)⟩
          case measure => simp [intOf]; omega
      · obtain rfl : k = l.length := by omega
        have HE := Lib.hid (Lst.list_ok l h100 hgd.out)
        go_wp2
        go_ret2
        exact ⟨by rw [HE.out]; rfl, hB⟩

set_option maxRecDepth 100000 in
set_option maxHeartbeats 4000000 in
theorem rlist_any (l : List ByteArray) (v : Value) (w : World) (F : Nat → Prop) (hF : ∀ b, F b → b < w.heap.size) (h : (Enc.str.sl 16).R F w [v] l) : Calls Try.prog 42 #[v] w (RetSE (Lst.list l) w.heap.size w) := by
  obtain ⟨ao, b, off, cap, rfl, c1, c2, c3⟩ := Enc.sl1 (En := Enc.str) Value.string (fun _ _ _ h => h.1) rfl ByteArray.empty h
  clear h
  have C2 := Lib.hid c2; have C3 := Lib.hid c3
  clear c2 c3
  by_cases h100 : 100 < l.length
  · have HE := Lib.hid (Lst.list_large l h100)
    go_enter Try.func42, Try.ntmps42
    go_wp2
    go_ret2
    exact ⟨by rw [HE.out]; rfl, Below.refl _ _⟩
  · go_enter Try.func42, Try.ntmps42
    go_wp2
    go_loopw [4] (fun i wr => ∃ k : Nat, k ≤ l.length ∧ i = .int .i64 k ∧ w = wr ∧ Hid (∀ j, j < k → (l.getD j ByteArray.empty).size ≤ 4096)) (fun i _ => l.length - (intOf i).toNat)
    case atStart => exact ⟨0, by omega, rfl, rfl, Lib.hid (fun j hj => by omega)⟩
    case round =>
      obtain ⟨k, hk, rfl, rfl, hgd⟩ := hrel
      by_cases hlt : k < l.length
      · obtain ⟨rfl, _, _⟩ := C2.out (by omega)
        have hcell := (C3.out k hlt).1
        generalize hx : l.getD k ByteArray.empty = x at *
        have HX := Lib.hid hx; clear hx
        by_cases hl : 4096 < x.size
        · have HE := Lib.hid (Lst.list_bad l k hlt (by rw [HX.out]; exact hl))
          go_wp2
          go_ret2
          exact ⟨by rw [HE.out]; rfl, Below.refl _ _⟩
        · go_wp2
          go_roundw
          case rel => exact ⟨k + 1, by omega, by go_num, by trivial, Lib.hid (fun j hj => by
            rcases Nat.lt_succ_iff_lt_or_eq.1 hj with hj | rfl
            · exact hgd.out j hj
            · rw [HX.out]; omega)⟩
          case measure => simp [intOf]; omega
      · obtain rfl : k = l.length := by omega
        have HE := Lib.hid (Lst.list_ok l h100 hgd.out)
        clear hlt
        go_wp2_with (go_at_call 71; refine (rnum10 _ (by omega) (by omega) _).mono ?_; rintro e w1 ⟨rfl, hb1⟩)
        rw [← Lst.cat_zero]
        go_loopw [5, 6] (fun o i wr => ∃ k : Nat, k ≤ l.length ∧ i = .int .i64 k ∧ o = .string (Lst.cat l k) ∧ Below w.heap.size w wr) (fun _ i _ => l.length - (intOf i).toNat)
        case atStart => exact ⟨0, by omega, rfl, rfl, hb1⟩
        case round =>
          clear hb1
          obtain ⟨k, hk, rfl, rfl, hB⟩ := hrel
          by_cases hlt : k < l.length
          · obtain ⟨rfl, _, _⟩ := C2.out (by omega)
            have hcell := bkeep hB (C3.out k hlt).1
            have hsz := hgd.out k hlt
            have hcs := Lst.cat_size l k (fun i hi => hgd.out i (by omega))
            have hit := Lst.item_size (l.getD k ByteArray.empty)
            have hns := Lst.num_size (l.getD k ByteArray.empty).size
            have hsc := Lib.hid (Lst.cat_succ l k)
            generalize hx : l.getD k ByteArray.empty = x at *
            have HX := Lib.hid hx; clear hx
            have hadd := fun W => run_string_add_sum (P := Try.prog) W (Lst.cat l k) (Lst.item x) (by omega)
            have hadd2 : ∀ W, (Op.stringOp .add (strOfNums (Pack.num x.size)) x).run Try.prog W = .ok (.string (Lst.item x)) W := fun W => by
              rw [← Lst.item_def]; exact run_string_add_sum W _ _ (by omega)
            have hwr : IntKind.u64.wrap (x.size : Int) = (x.size : Int) := by rw [Pack.wrap_u64]; omega
            clear hcs hit hns
            go_wp2
            go_region_held3 (fun w' => w'.cell? ⟨b, off + k, none⟩ = some (.string x) ∧ Below w.heap.size w w') (first | exact ⟨bkeep hb9 hh.1, hh.2.trans (hb9.mono hh.2.size)⟩ | exact ⟨hcell, hB.drew⟩)
              ((go_at_call 71; have hh := ‹_ ∧ Below w.heap.size w _›; refine (rnum10 _ (by omega) (by omega) _).mono ?_; rintro e w9 ⟨rfl, hb9⟩))
            go_wp2
            have hh := ‹_ ∧ Below w.heap.size w _›
            go_roundw
            case rel => exact ⟨k + 1, by omega, by go_num, by rw [hsc.out], hh.2⟩
            case measure => simp [intOf]; omega
          · obtain rfl : k = l.length := by omega
            go_wp2
            go_ret2
            exact ⟨by rw [HE.out]; rfl, hB⟩
end Go.Proofs.Ytkgpipokfoadiaa
