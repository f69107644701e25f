/-
  Check of package dfa and RightDfa of the reference: what they compute. An automaton that came in, opened.
-/
import Derived.Test.YtlejdbabbakhlaaRead
namespace Go.Proofs.Ytlejdbabbakhlaa
open Go.ChangeShapes Go.WideShapes Go.ChangeAt Go.RowKit Go.Joins

/-- A slice of numbers that came in. -/
theorem slInts {w : World} {k : IntKind} {v : Value} {l : List Int} (h : Sl w 1 (RInt k) v l) :
    ∃ (ao : Option Addr) (b off cap : Nat), v = .slice ao l.length cap ∧ l.length ≤ cap ∧ cap ≤ maxLen ∧ (0 < l.length → ao = some ⟨b, off, none⟩ ∧ b < w.heap.size) ∧
      (∀ i, i < l.length → w.cell? ⟨b, off + i, none⟩ = some (.int k (l.getD i 0))) ∧ ∀ i, i < l.length → (Lit.int k (l.getD i 0)).wf = true := by
  obtain ⟨ao, b, off, cap, h0, h1, h2, h3, h4⟩ := h
  refine ⟨ao, b, off, cap, h0, h1, h2, h3, fun i hi => ?_, fun i hi => ?_⟩
  · obtain ⟨cs, g1, g2, g3, _⟩ := h4 i hi
    have := g2 0 (by omega)
    rw [g3, Nat.mul_one, Nat.add_zero] at this
    rw [this]; simp [List.getD, List.getElem?_eq_getElem hi]
  · obtain ⟨cs, g1, g2, g3, g4⟩ := h4 i hi
    simpa [List.getD, List.getElem?_eq_getElem hi] using g4

/-- A slice of arrays of numbers that came in. -/
theorem slRows {w : World} {k : IntKind} {n : Nat} {v : Value} {l : List (List Int)} (h : Sl w n (RRow k n) v l) :
    ∃ (ao : Option Addr) (b off cap : Nat), v = .slice ao l.length cap ∧ l.length ≤ cap ∧ cap ≤ maxLen ∧ (0 < l.length → ao = some ⟨b, off, none⟩ ∧ b < w.heap.size) ∧
      (∀ i, i < l.length → w.rangeAt b (off + i * n) ((l.getD i []).map (Value.int k))) ∧ ∀ i, i < l.length → (l.getD i []).length = n ∧ ∀ x ∈ l.getD i [], (Lit.int k x).wf = true := by
  obtain ⟨ao, b, off, cap, h0, h1, h2, h3, h4⟩ := h
  refine ⟨ao, b, off, cap, h0, h1, h2, h3, fun i hi => ?_, fun i hi => ?_⟩
  · obtain ⟨cs, ⟨g1, _⟩, g2⟩ := Sl.range h4 i hi
    rw [g1] at g2
    simpa [List.getD, List.getElem?_eq_getElem hi] using g2
  · obtain ⟨cs, _, _, _, g4⟩ := h4 i hi
    simpa [List.getD, List.getElem?_eq_getElem hi] using g4

def DfaAt (w : World) (v : Value) (rows : List (List Int)) (tags : List Int) : Prop :=
  ∃ v0 v1, v = .agg #[v0, v1] ∧ Sl w 256 (RRow .i16 256) v0 rows ∧ Sl w 1 (RInt .i64) v1 tags

set_option maxRecDepth 100000 in
theorem open_Dfa {H : Type} {enc : TypeId × Value → H} {w : World} {base : Nat} {spare : Nat → Bool} {held : Bool} {r : Reach} {b0 : Nat} {v : Value} {d : DataW H} {p : List MemPlace}
    (hv : Value.okWide Try.prog w r b0 45 v) (h : DataW.Trod enc Try.prog w base spare held 45 v d p) : ∃ rows tags, DfaAt w v rows tags := by
  obtain ⟨v0, v1, y0, y1, n, rfl, _, _, h0, h1⟩ := open_agg2 Try.underlying45 (by kernel_rfl) (by kernel_rfl) hv h
  obtain ⟨u0, rows, e0, hr⟩ := open_sl (size := 256) Try.underlying43 (by kernel_rfl) (by decide) h0 (fun _ _ _ _ hh => rRow Try.underlying101 Try.underlying99 (by kernel_rfl) (by kernel_rfl) hh)
  obtain ⟨u1, tags, e1, ht⟩ := open_sl (size := 1) Try.underlying24 (by kernel_rfl) (by decide) h1 (fun _ _ _ _ hh => rInt Try.underlying3 hh)
  simp only [List.cons.injEq, and_true] at e0 e1
  subst e0 e1
  exact ⟨rows, tags, _, _, rfl, hr, ht⟩

namespace Aut
def tagGood (t : Int) : Prop := -1 ≤ t ∧ t ≤ 19
def rowGood (n : Nat) (row : List Int) : Prop := ∀ c, c < 256 → -1 ≤ row.getD c 0 ∧ row.getD c 0 < n
def Good (rows : List (List Int)) (tags : List Int) : Prop := ∀ i, i < rows.length → tagGood (tags.getD i 0) ∧ rowGood rows.length (rows.getD i [])
open Classical in
noncomputable def err (rows : List (List Int)) (tags : List Int) : Int :=
  if 200 < rows.length then 2 else if rows.length = 0 ∨ tags.length ≠ rows.length then 1 else if Good rows tags then 0 else 1
theorem err_large (rows tags) (h : 200 < rows.length) : err rows tags = 2 := by rw [err, if_pos h]
theorem err_arg (rows tags) (h : ¬ 200 < rows.length) (h1 : rows.length = 0 ∨ tags.length ≠ rows.length) : err rows tags = 1 := by rw [err, if_neg h, if_pos h1]
theorem err_bad (rows tags) (h : ¬ 200 < rows.length) (h1 : ¬ Good rows tags) : err rows tags = 1 := by
  rw [err, if_neg h]
  by_cases h2 : rows.length = 0 ∨ tags.length ≠ rows.length
  · rw [if_pos h2]
  · rw [if_neg h2, if_neg h1]
theorem i16_bounds (row : List Int) (c : Nat) (hc : c < row.length) (h : ∀ x ∈ row, (Lit.int .i16 x).wf = true) : -32768 ≤ row.getD c 0 ∧ row.getD c 0 ≤ 32767 := by
  have hm : row.getD c 0 ∈ row := by simp [List.getD, List.getElem?_eq_getElem hc]
  have := h _ hm
  simpa [Lit.wf, IntKind.min, IntKind.max, IntKind.signed, IntKind.bits] using this
theorem row_get (row : List Int) (c : Nat) (hc : c < row.length) : (row.map (Value.int .i16))[c]? = some (.int .i16 (row.getD c 0)) := by
  simp [List.getD, List.getElem?_eq_getElem hc]
theorem bad_tag (rows tags) (k : Nat) (hk : k < rows.length) (h : ¬ tagGood (tags.getD k 0)) : ¬ Good rows tags := fun g => h (g k hk).1
theorem bad_row (rows tags) (k c : Nat) (hk : k < rows.length) (hc : c < 256) (h : ¬ (-1 ≤ (rows.getD k []).getD c 0 ∧ (rows.getD k []).getD c 0 < rows.length)) : ¬ Good rows tags := fun g => h ((g k hk).2 c hc)
theorem err_ok (rows tags) (h : ¬ 200 < rows.length) (h1 : rows.length ≠ 0) (h2 : tags.length = rows.length) (h3 : Good rows tags) : err rows tags = 0 := by
  rw [err, if_neg h, if_neg (by omega), if_pos h3]
end Aut

set_option maxRecDepth 100000 in
theorem dfaCheck_any (v : Value) (rows : List (List Int)) (tags : List Int) (w : World) (hd : DfaAt w v rows tags) :
    Calls Try.prog 28 #[v] w fun e w' => e = .returned (.int .i64 (Aut.err rows tags)) ∧ Below w.heap.size w w' := by
  obtain ⟨v0, v1, rfl, hr, ht⟩ := hd
  obtain ⟨ao, b, off, cap, rfl, c1, c2, c3, c4, c5⟩ := slRows hr
  obtain ⟨at0, bt, ot, capt, rfl, t1, t2, t3, t4, t5⟩ := slInts ht
  unfold maxLen at c2 t2
  have C3 := Lib.hid c3; have C4 := Lib.hid c4; have C5 := Lib.hid c5; have T3 := Lib.hid t3; have T4 := Lib.hid t4; have T5 := Lib.hid t5
  clear c3 c4 c5 t3 t4 t5
  by_cases h200 : 200 < rows.length
  · have He := Lib.hid (Aut.err_large rows tags h200)
    go_enter Try.func28, Try.ntmps28
    go_wp2
    go_ret
    exact ⟨by rw [He.out]; rfl, (Below.refl _ _).alloc (Nat.le_refl _) _⟩
  by_cases h0 : rows.length = 0
  · have He := Lib.hid (Aut.err_arg rows tags h200 (.inl h0))
    have h00 : ((rows.length : Int) == 0) = true := by rw [beq_iff_eq]; omega
    clear h0
    go_enter Try.func28, Try.ntmps28
    go_wp2
    all_goals go_ret
    all_goals exact ⟨by rw [He.out]; rfl, (Below.refl _ _).alloc (Nat.le_refl _) _⟩
  have hn0 : ((rows.length : Int) == 0) = false := by rw [beq_eq_false_iff_ne]; omega
  by_cases h1 : tags.length = rows.length
  · have Hl := Lib.hid h1; clear h1
    obtain ⟨rfl, hb⟩ := C3.out (by omega)
    obtain ⟨rfl, hbt⟩ := T3.out (by have := Hl.out; omega)
    have hne : ((tags.length : Int) != (rows.length : Int)) = false := by have := Hl.out; rw [bne_eq_false_iff_eq]; omega
    go_enter Try.func28, Try.ntmps28
    go_wp2
    obtain ⟨W, hW⟩ : ∃ W, W = w.alloc (.cells #[.slice (some ⟨b, off, none⟩) rows.length cap, .slice (some ⟨bt, ot, none⟩) tags.length capt] 45) := ⟨_, rfl⟩
    have hB : Below w.heap.size w W := by rw [hW]; exact (Below.refl _ _).alloc (Nat.le_refl _) _
    have hb0 : W.cell? ⟨w.heap.size, 0, none⟩ = some (.slice (some ⟨b, off, none⟩) rows.length cap) := by rw [hW, World.cell?_alloc_new]; rfl
    have hb1 : W.cell? ⟨w.heap.size, 1, none⟩ = some (.slice (some ⟨bt, ot, none⟩) tags.length capt) := by rw [hW, World.cell?_alloc_new]; rfl
    rw [← hW]
    clear hW
    go_loop [4, 6, 22] (fun _ _ i => ∃ k : Nat, k ≤ rows.length ∧ i = .int .i64 k ∧ Hid (∀ j, j < k → Aut.tagGood (tags.getD j 0) ∧ Aut.rowGood rows.length (rows.getD j []))) (fun _ _ i => rows.length - (intOf i).toNat)
    case atStart => exact ⟨0, by omega, rfl, Lib.hid (fun j hj => by omega)⟩
    case round =>
      obtain ⟨k, hk, rfl, hgood⟩ := hrel
      by_cases hlt : k < rows.length
      · have htag : W.cell? ⟨bt, ot + k, none⟩ = some (.int .i64 (tags.getD k 0)) := bkeep hB (T4.out k (by have := Hl.out; omega))
        have hkt : k < tags.length := by have := Hl.out; omega
        have hrow := Lib.hid (rangeAt_below hB (C4.out k hlt))
        have hlen := Lib.hid (C5.out k hlt)
        generalize htg : tags.getD k 0 = tg at htag
        have Htg := Lib.hid htg; clear htg
        generalize hrw : rows.getD k [] = row at hrow hlen
        have Hrw := Lib.hid hrw; clear hrw
        by_cases g1 : tg < -1
        · have He := Lib.hid (Aut.err_bad rows tags h200 (Aut.bad_tag rows tags k hlt (by rw [Htg.out]; unfold Aut.tagGood; omega)))
          go_wp2
          go_ret
          exact ⟨by rw [He.out]; rfl, hB⟩
        by_cases g2 : 20 ≤ tg
        · have He := Lib.hid (Aut.err_bad rows tags h200 (Aut.bad_tag rows tags k hlt (by rw [Htg.out]; unfold Aut.tagGood; omega)))
          go_wp2
          go_ret
          exact ⟨by rw [He.out]; rfl, hB⟩
        go_wp2_with (refine wpList_load_mid rfl 101 (.tmp 42) rfl b _ rfl (row.map (Value.int .i16)) _ hrow.out Try.underlying101 rfl (by rw [List.length_map, hlen.out.1]; kernel_rfl) ?_)
        clear htag
        go_loop [6, 44] (fun _ i => ∃ c : Nat, c ≤ 256 ∧ i = .int .i64 c ∧ Hid (∀ j, j < c → -1 ≤ row.getD j 0 ∧ row.getD j 0 < rows.length)) (fun _ i => 256 - (intOf i).toNat)
        case atStart => exact ⟨0, by omega, rfl, Lib.hid (fun j hj => by omega)⟩
        case round =>
          obtain ⟨c, hc, rfl, hcols⟩ := hrel
          by_cases hcl : c < 256
          · have hidx := fun W => run_index_arr (P := Try.prog) (k := .i16) Try.underlying101 Try.underlying99 (by kernel_rfl) row hlen.out.1 c hcl W
            have hx := Aut.i16_bounds row c (by rw [hlen.out.1]; exact hcl) hlen.out.2
            generalize hxe : row.getD c 0 = x at hidx hx
            have Hx := Lib.hid hxe; clear hxe
            obtain ⟨hx0, hx1⟩ := hx
            by_cases g3 : x < -1
            · have He := Lib.hid (Aut.err_bad rows tags h200 (Aut.bad_row rows tags k c hlt hcl (by rw [Hrw.out, Hx.out]; omega)))
              go_wp2
              go_ret
              exact ⟨by rw [He.out]; rfl, hB⟩
            by_cases g4 : (rows.length : Int) ≤ x
            · have He := Lib.hid (Aut.err_bad rows tags h200 (Aut.bad_row rows tags k c hlt hcl (by rw [Hrw.out, Hx.out]; omega)))
              go_wp2
              go_ret
              exact ⟨by rw [He.out]; rfl, hB⟩
            go_wp2
            go_round
            case rel => exact ⟨c + 1, by omega, by go_num, Lib.hid (fun j hj => by
              by_cases e : j = c
              · rw [e, Hx.out]; omega
              · exact hcols.out j (by omega))⟩
            case measure => simp [intOf]; omega
          · have hc256 : c = 256 := by omega
            subst hc256
            go_wp2
            go_round
            case rel => exact ⟨k + 1, by omega, by go_num, Lib.hid (fun j hj => by
              by_cases e : j = k
              · rw [e, Htg.out, Hrw.out]; exact ⟨by unfold Aut.tagGood; omega, hcols.out⟩
              · exact hgood.out j (by omega))⟩
            case measure => simp [intOf]; omega
      · have hke : k = rows.length := by omega
        have He := Lib.hid (Aut.err_ok rows tags h200 h0 Hl.out (fun j hj => hgood.out j (by omega)))
        go_wp2
        go_ret
        exact ⟨by rw [He.out]; rfl, hB⟩
  · have He := Lib.hid (Aut.err_arg rows tags h200 (.inr h1))
    have hne : ((tags.length : Int) != (rows.length : Int)) = true := by rw [bne_iff_ne]; omega
    go_enter Try.func28, Try.ntmps28
    go_wp2
    go_ret
    exact ⟨by rw [He.out]; rfl, (Below.refl _ _).alloc (Nat.le_refl _) _⟩

set_option maxRecDepth 100000 in
theorem rdfa_any (v : Value) (rows : List (List Int)) (tags : List Int) (w : World) (hd : DfaAt w v rows tags) :
    Calls Try.prog 25 #[v] w fun e w' => e = .returned (.int .i64 (Aut.err rows tags)) ∧ Below w.heap.size w w' := by
  obtain ⟨v0, v1, rfl, hr, ht⟩ := hd
  obtain ⟨ao, b, off, cap, rfl, c1, c2, c3, c4, c5⟩ := slRows hr
  obtain ⟨at0, bt, ot, capt, rfl, t1, t2, t3, t4, t5⟩ := slInts ht
  unfold maxLen at c2 t2
  have C3 := Lib.hid c3; have C4 := Lib.hid c4; have C5 := Lib.hid c5; have T3 := Lib.hid t3; have T4 := Lib.hid t4; have T5 := Lib.hid t5
  clear c3 c4 c5 t3 t4 t5
  by_cases h200 : 200 < rows.length
  · have He := Lib.hid (Aut.err_large rows tags h200)
    go_enter Try.func25, Try.ntmps25
    go_wp2
    go_ret
    exact ⟨by rw [He.out]; rfl, (Below.refl _ _).alloc (Nat.le_refl _) _⟩
  by_cases h0 : rows.length = 0
  · have He := Lib.hid (Aut.err_arg rows tags h200 (.inl h0))
    have h00 : ((rows.length : Int) == 0) = true := by rw [beq_iff_eq]; omega
    clear h0
    go_enter Try.func25, Try.ntmps25
    go_wp2
    all_goals go_ret
    all_goals exact ⟨by rw [He.out]; rfl, (Below.refl _ _).alloc (Nat.le_refl _) _⟩
  have hn0 : ((rows.length : Int) == 0) = false := by rw [beq_eq_false_iff_ne]; omega
  by_cases h1 : tags.length = rows.length
  · have Hl := Lib.hid h1; clear h1
    obtain ⟨rfl, hb⟩ := C3.out (by omega)
    obtain ⟨rfl, hbt⟩ := T3.out (by have := Hl.out; omega)
    have hne : ((rows.length : Int) != (tags.length : Int)) = false := by have := Hl.out; rw [bne_eq_false_iff_eq]; omega
    go_enter Try.func25, Try.ntmps25
    go_wp2
    obtain ⟨W, hW⟩ : ∃ W, W = w.alloc (.cells #[.slice (some ⟨b, off, none⟩) rows.length cap, .slice (some ⟨bt, ot, none⟩) tags.length capt] 45) := ⟨_, rfl⟩
    have hB : Below w.heap.size w W := by rw [hW]; exact (Below.refl _ _).alloc (Nat.le_refl _) _
    have hb0 : W.cell? ⟨w.heap.size, 0, none⟩ = some (.slice (some ⟨b, off, none⟩) rows.length cap) := by rw [hW, World.cell?_alloc_new]; rfl
    have hb1 : W.cell? ⟨w.heap.size, 1, none⟩ = some (.slice (some ⟨bt, ot, none⟩) tags.length capt) := by rw [hW, World.cell?_alloc_new]; rfl
    rw [← hW]
    clear hW
    go_loop [4, 5] (fun i _ => ∃ k : Nat, k ≤ rows.length ∧ i = .int .i64 k ∧ Hid (∀ j, j < k → Aut.tagGood (tags.getD j 0) ∧ Aut.rowGood rows.length (rows.getD j []))) (fun i _ => rows.length - (intOf i).toNat)
    case atStart => exact ⟨0, by omega, rfl, Lib.hid (fun j hj => by omega)⟩
    case round =>
      obtain ⟨k, hk, rfl, hgood⟩ := hrel
      by_cases hlt : k < rows.length
      · have htag : W.cell? ⟨bt, ot + k, none⟩ = some (.int .i64 (tags.getD k 0)) := bkeep hB (T4.out k (by have := Hl.out; omega))
        have hkt : k < tags.length := by have := Hl.out; omega
        have hrow := Lib.hid (rangeAt_below hB (C4.out k hlt))
        have hlen := Lib.hid (C5.out k hlt)
        generalize htg : tags.getD k 0 = tg at htag
        have Htg := Lib.hid htg; clear htg
        generalize hrw : rows.getD k [] = row at hrow hlen
        have Hrw := Lib.hid hrw; clear hrw
        by_cases g1 : tg < -1
        · have He := Lib.hid (Aut.err_bad rows tags h200 (Aut.bad_tag rows tags k hlt (by rw [Htg.out]; unfold Aut.tagGood; omega)))
          go_wp2
          go_ret
          exact ⟨by rw [He.out]; rfl, hB⟩
        by_cases g2 : 20 ≤ tg
        · have He := Lib.hid (Aut.err_bad rows tags h200 (Aut.bad_tag rows tags k hlt (by rw [Htg.out]; unfold Aut.tagGood; omega)))
          go_wp2
          go_ret
          exact ⟨by rw [He.out]; rfl, hB⟩
        go_wp2
        clear htag
        go_loop [5] (fun i => ∃ c : Nat, c ≤ 256 ∧ i = .int .i64 c ∧ Hid (∀ j, j < c → -1 ≤ row.getD j 0 ∧ row.getD j 0 < rows.length)) (fun i => 256 - (intOf i).toNat)
        case atStart => exact ⟨0, by omega, rfl, Lib.hid (fun j hj => by omega)⟩
        case round =>
          obtain ⟨c, hc, rfl, hcols⟩ := hrel
          by_cases hcl : c < 256
          · have hcell : W.cell? ⟨b, off + k * 256 + c, none⟩ = some (.int .i16 (row.getD c 0)) := hrow.out c _ (Aut.row_get row c (by rw [hlen.out.1]; exact hcl))
            have hx := Aut.i16_bounds row c (by rw [hlen.out.1]; exact hcl) hlen.out.2
            generalize hxe : row.getD c 0 = x at hcell hx
            have Hx := Lib.hid hxe; clear hxe
            obtain ⟨hx0, hx1⟩ := hx
            by_cases g3 : x < -1
            · have He := Lib.hid (Aut.err_bad rows tags h200 (Aut.bad_row rows tags k c hlt hcl (by rw [Hrw.out, Hx.out]; omega)))
              go_wp2
              go_ret
              exact ⟨by rw [He.out]; rfl, hB⟩
            by_cases g4 : (rows.length : Int) ≤ x
            · have He := Lib.hid (Aut.err_bad rows tags h200 (Aut.bad_row rows tags k c hlt hcl (by rw [Hrw.out, Hx.out]; omega)))
              go_wp2
              go_ret
              exact ⟨by rw [He.out]; rfl, hB⟩
            go_wp2
            go_round
            case rel => exact ⟨c + 1, by omega, by go_num, Lib.hid (fun j hj => by
              by_cases e : j = c
              · rw [e, Hx.out]; omega
              · exact hcols.out j (by omega))⟩
            case measure => simp [intOf]; omega
          · have hc256 : c = 256 := by omega
            subst hc256
            go_wp2
            go_round
            case rel => exact ⟨k + 1, by omega, by go_num, Lib.hid (fun j hj => by
              by_cases e : j = k
              · rw [e, Htg.out, Hrw.out]; exact ⟨by unfold Aut.tagGood; omega, hcols.out⟩
              · exact hgood.out j (by omega))⟩
            case measure => simp [intOf]; omega
      · have hke : k = rows.length := by omega
        have He := Lib.hid (Aut.err_ok rows tags h200 h0 Hl.out (fun j hj => hgood.out j (by omega)))
        go_wp2
        go_ret
        exact ⟨by rw [He.out]; rfl, hB⟩
  · have He := Lib.hid (Aut.err_arg rows tags h200 (.inr h1))
    have hne : ((rows.length : Int) != (tags.length : Int)) = true := by rw [bne_iff_ne]; omega
    go_enter Try.func25, Try.ntmps25
    go_wp2
    go_ret
    exact ⟨by rw [He.out]; rfl, (Below.refl _ _).alloc (Nat.le_refl _) _⟩
end Go.Proofs.Ytlejdbabbakhlaa
