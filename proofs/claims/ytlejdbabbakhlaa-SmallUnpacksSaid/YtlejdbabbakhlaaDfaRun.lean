/-
  Run and Tag of package dfa, Goes and TagOf of the reference: what they compute.
-/
import Derived.Test.YtlejdbabbakhlaaDfa
namespace Go.Proofs.Ytlejdbabbakhlaa
open Go.ChangeShapes Go.WideShapes Go.ChangeAt Go.RowKit

namespace Aut
/-- One byte more. -/
def stepB (rows : List (List Int)) (st : Int) (c : UInt8) : Int := if st < 0 then st else (rows.getD st.toNat []).getD c.toNat 0
def goes (rows : List (List Int)) (l : List UInt8) : Int := l.foldl (stepB rows) 0
theorem stepB_neg (rows) (st : Int) (c : UInt8) (h : st < 0) : stepB rows st c = st := by rw [stepB, if_pos h]
theorem stepB_pos (rows) (st : Int) (c : UInt8) (h : ¬ st < 0) : stepB rows st c = (rows.getD st.toNat []).getD c.toNat 0 := by rw [stepB, if_neg h]
theorem fold_neg (rows) (l : List UInt8) (st : Int) (h : st < 0) : l.foldl (stepB rows) st = st := by
  induction l with
  | nil => rfl
  | cons c l ih => rw [List.foldl_cons, stepB_neg rows st c h]; exact ih
theorem fold_in (rows) (tags : List Int) (hg : Good rows tags) (l : List UInt8) (st : Int) (h0 : -1 ≤ st) (h1 : st < rows.length) : -1 ≤ l.foldl (stepB rows) st ∧ l.foldl (stepB rows) st < rows.length := by
  induction l generalizing st with
  | nil => exact ⟨h0, h1⟩
  | cons c l ih =>
    rw [List.foldl_cons]
    by_cases h : st < 0
    · rw [stepB_neg rows st c h]; exact ih st h0 h1
    · rw [stepB_pos rows st c h]
      have := (hg st.toNat (by omega)).2 c.toNat (by have := c.toNat_lt; omega)
      exact ih _ this.1 this.2
theorem take_snoc (s : ByteArray) (k : Nat) (h : k < s.size) : s.data.toList.take (k + 1) = s.data.toList.take k ++ [s[k]] := by
  rw [List.take_succ_eq_append_getElem (by simpa using h)]; rfl
theorem fold_next (rows) (s : ByteArray) (k : Nat) (h : k < s.size) (st : Int) (hs : (s.data.toList.take k).foldl (stepB rows) 0 = st) :
    (s.data.toList.take (k + 1)).foldl (stepB rows) 0 = stepB rows st s[k] := by
  rw [take_snoc s k h, List.foldl_append, hs]; rfl
theorem fold_stop (rows) (s : ByteArray) (k : Nat) (st : Int) (hs : (s.data.toList.take k).foldl (stepB rows) 0 = st) (h : st < 0 ∨ s.size ≤ k) : goes rows s.data.toList = st := by
  unfold goes
  rw [← List.take_append_drop k s.data.toList, List.foldl_append, hs]
  rcases h with h | h
  · exact fold_neg rows _ st h
  · rw [List.drop_of_length_le (by simpa using h)]; rfl
theorem err_good (rows tags) (h : err rows tags = 0) : rows.length ≤ 200 ∧ 0 < rows.length ∧ tags.length = rows.length ∧ Good rows tags := by
  unfold err at h
  by_cases h1 : 200 < rows.length
  · rw [if_pos h1] at h; omega
  rw [if_neg h1] at h
  by_cases h2 : rows.length = 0 ∨ tags.length ≠ rows.length
  · rw [if_pos h2] at h; omega
  rw [if_neg h2] at h
  by_cases h3 : Good rows tags
  · exact ⟨by omega, by omega, by omega, h3⟩
  · rw [if_neg h3] at h; omega
theorem err_range (rows tags) : 0 ≤ err rows tags ∧ err rows tags ≤ 2 := by
  unfold err
  by_cases h1 : 200 < rows.length
  · rw [if_pos h1]; omega
  rw [if_neg h1]
  by_cases h2 : rows.length = 0 ∨ tags.length ≠ rows.length
  · rw [if_pos h2]; omega
  rw [if_neg h2]
  by_cases h3 : Good rows tags
  · rw [if_pos h3]; omega
  · rw [if_neg h3]; omega
end Aut
attribute [local irreducible] Aut.goes Aut.stepB

theorem DfaAt.below {w w' : World} {v : Value} {rows : List (List Int)} {tags : List Int} (h : DfaAt w v rows tags) (hb : Below w.heap.size w w') : DfaAt w' v rows tags := by
  obtain ⟨v0, v1, h0, h1, h2⟩ := h
  exact ⟨v0, v1, h0, h1.call hb (fun _ _ h => h), h2.call hb (fun _ _ h => h)⟩

set_option maxRecDepth 100000 in
theorem dfaRun_bad (v : Value) (rows : List (List Int)) (tags : List Int) (s : ByteArray) (w : World) (hd : DfaAt w v rows tags) (he : 0 < Aut.err rows tags) :
    Calls Try.prog 26 #[v, .string s] w fun e w' => e = .returned (.tuple #[.int .i64 0, .int .i64 (Aut.err rows tags)]) ∧ Below w.heap.size w w' := by
  have hd' := hd
  obtain ⟨v0, v1, rfl, hr, ht⟩ := hd
  go_enter Try.func26, Try.ntmps26
  go_wp2_with (go_at_call 28; refine (dfaCheck_any _ rows tags _ (hd'.below ((Below.refl _ _).alloc (Nat.le_refl _) _))).mono ?_; rintro e w1 ⟨rfl, hb1⟩)
  go_ret2
  exact ⟨rfl, ((Below.refl _ _).alloc (Nat.le_refl _) _).trans (hb1.mono (by simp))⟩

set_option maxRecDepth 100000 in
theorem dfaRun_ok (v : Value) (rows : List (List Int)) (tags : List Int) (s : ByteArray) (hs : s.size ≤ maxLen) (w : World) (hd : DfaAt w v rows tags) (he : Aut.err rows tags = 0) :
    Calls Try.prog 26 #[v, .string s] w fun e w' => e = .returned (.tuple #[.int .i64 (Aut.goes rows s.data.toList), .int .i64 0]) ∧ Below w.heap.size w w' := by
  unfold maxLen at hs
  have hd' := hd
  have HE := Lib.hid he
  obtain ⟨hn1, hn0, hl, hg⟩ := Aut.err_good rows tags he
  clear he
  have Hl := Lib.hid hl; have Hg := Lib.hid hg; clear hl hg
  obtain ⟨v0, v1, rfl, hr, ht⟩ := hd
  obtain ⟨ao, b, off, cap, rfl, c1, c2, c3, c4, c5⟩ := slRows hr
  obtain ⟨rfl, hb⟩ := c3 hn0
  have C4 := Lib.hid c4; have C5 := Lib.hid c5; clear c4 c5 c3
  unfold maxLen at c2
  go_enter Try.func26, Try.ntmps26
  go_wp2_with (go_at_call 28; refine (dfaCheck_any _ rows tags _ (hd'.below ((Below.refl _ _).alloc (Nat.le_refl _) _))).mono ?_; rintro e w1 ⟨rfl, hb1⟩; rw [HE.out])
  have hB : Below w.heap.size w w1 := ((Below.refl _ _).alloc (Nat.le_refl _) _).trans (hb1.mono (by simp))
  have hbox : w1.cell? ⟨w.heap.size, 0, none⟩ = some (.slice (some ⟨b, off, none⟩) rows.length cap) := bkeep hb1 (by rw [World.cell?_alloc_new]; rfl)
  clear hb1
  go_loopw [7, 8] (fun st i wr => ∃ (k : Nat) (q : Int), k ≤ s.size ∧ i = .int .i64 k ∧ st = .int .i64 q ∧ -1 ≤ q ∧ q < rows.length ∧ Hid ((s.data.toList.take k).foldl (Aut.stepB rows) 0 = q) ∧ Below w.heap.size w wr ∧ wr.cell? ⟨w.heap.size, 0, none⟩ = some (.slice (some ⟨b, off, none⟩) rows.length cap)) (fun st i _ => s.size - (intOf i).toNat)
  case atStart => exact ⟨0, 0, by omega, rfl, rfl, by omega, by omega, Lib.hid rfl, hB, hbox⟩
  case round =>
    clear hbox hB
    obtain ⟨k, q, hk, rfl, rfl, hq0, hq1, hfold, hB, hbox⟩ := hrel
    by_cases hlt : k < s.size
    · by_cases hneg : q < 0
      · have Hf := Lib.hid (Aut.fold_stop rows s k q hfold.out (.inl hneg))
        go_wp2
        go_ret2
        exact ⟨by rw [Hf.out]; rfl, hB⟩
      · obtain ⟨q, rfl⟩ := Int.eq_ofNat_of_zero_le (show 0 ≤ q by omega)
        have hqn : q < rows.length := by omega
        have hc := s[k].toNat_lt
        have hlen := C5.out q hqn
        have hcell : wr.cell? ⟨b, off + q * 256 + s[k].toNat, none⟩ = some (.int .i16 ((rows.getD q []).getD s[k].toNat 0)) := bkeep hB (C4.out q hqn _ _ (Aut.row_get _ _ (by rw [hlen.1]; omega)))
        have hx := Aut.i16_bounds _ s[k].toNat (by rw [hlen.1]; omega) hlen.2
        have hgd := (Hg.out q hqn).2 s[k].toNat (by omega)
        have hnx := Aut.fold_next rows s k hlt q hfold.out
        rw [Aut.stepB_pos rows _ _ (by omega), Int.toNat_natCast] at hnx
        clear hlen
        generalize (rows.getD q []).getD s[k].toNat 0 = x at *
        have Hnx := Lib.hid hnx; clear hnx
        obtain ⟨hx0, hx1⟩ := hx
        obtain ⟨hg0, hg1⟩ := hgd
        go_wp2
        go_quiet (fail)
        go_wp2
        go_roundw
        case rel => exact ⟨k + 1, x, by omega, by go_num, rfl, hg0, hg1, Hnx, below_drewN hB _, hbox⟩
        case measure => simp [intOf]; omega
    · have Hf := Lib.hid (Aut.fold_stop rows s k q hfold.out (.inr (by omega)))
      go_wp2
      go_ret2
      exact ⟨by rw [Hf.out]; rfl, hB⟩

set_option maxRecDepth 100000 in
theorem rgoes_any (v : Value) (rows : List (List Int)) (tags : List Int) (s : ByteArray) (hs : s.size ≤ maxLen) (w : World) (hd : DfaAt w v rows tags) (he : Aut.err rows tags = 0) :
    Calls Try.prog 29 #[v, .string s] w fun e w' => e = .returned (.int .i64 (Aut.goes rows s.data.toList)) ∧ Below w.heap.size w w' := by
  unfold maxLen at hs
  obtain ⟨hn1, hn0, hl, hg⟩ := Aut.err_good rows tags he
  clear he
  have Hl := Lib.hid hl; have Hg := Lib.hid hg; clear hl hg
  obtain ⟨v0, v1, rfl, hr, ht⟩ := hd
  obtain ⟨ao, b, off, cap, rfl, c1, c2, c3, c4, c5⟩ := slRows hr
  obtain ⟨rfl, hb⟩ := c3 hn0
  have C4 := Lib.hid c4; have C5 := Lib.hid c5; clear c4 c5 c3
  unfold maxLen at c2
  go_enter Try.func29, Try.ntmps29
  go_wp2
  obtain ⟨w1, hW⟩ : ∃ W, W = w.alloc (.cells #[.slice (some ⟨b, off, none⟩) rows.length cap, v1] 45) := ⟨_, rfl⟩
  have hB : Below w.heap.size w w1 := by rw [hW]; exact (Below.refl _ _).alloc (Nat.le_refl _) _
  have hbox : w1.cell? ⟨w.heap.size, 0, none⟩ = some (.slice (some ⟨b, off, none⟩) rows.length cap) := by rw [hW, World.cell?_alloc_new]; rfl
  rw [← hW]
  clear hW
  go_loopw [5, 6] (fun st i wr => ∃ (k : Nat) (q : Int), k ≤ s.size ∧ i = .int .i64 k ∧ st = .int .i64 q ∧ -1 ≤ q ∧ q < rows.length ∧ Hid ((s.data.toList.take k).foldl (Aut.stepB rows) 0 = q) ∧ Below w.heap.size w wr ∧ wr.cell? ⟨w.heap.size, 0, none⟩ = some (.slice (some ⟨b, off, none⟩) rows.length cap)) (fun st i _ => s.size - (intOf i).toNat)
  case atStart => exact ⟨0, 0, by omega, rfl, rfl, by omega, by omega, Lib.hid rfl, hB, hbox⟩
  case round =>
    clear hbox hB
    obtain ⟨k, q, hk, rfl, rfl, hq0, hq1, hfold, hB, hbox⟩ := hrel
    by_cases hlt : k < s.size
    · by_cases hneg : q < 0
      · have hnx := Aut.fold_next rows s k hlt q hfold.out
        rw [Aut.stepB_neg rows _ _ hneg] at hnx
        have Hnx := Lib.hid hnx; clear hnx
        go_wp2
        go_roundw
        case rel => exact ⟨k + 1, q, by omega, by go_num, rfl, hq0, hq1, Hnx, hB, hbox⟩
        case measure => simp [intOf]; omega
      · obtain ⟨q, rfl⟩ := Int.eq_ofNat_of_zero_le (show 0 ≤ q by omega)
        have hqn : q < rows.length := by omega
        have hc := s[k].toNat_lt
        have hlen := C5.out q hqn
        have hcell : wr.cell? ⟨b, off + q * 256 + s[k].toNat, none⟩ = some (.int .i16 ((rows.getD q []).getD s[k].toNat 0)) := bkeep hB (C4.out q hqn _ _ (Aut.row_get _ _ (by rw [hlen.1]; omega)))
        have hx := Aut.i16_bounds _ s[k].toNat (by rw [hlen.1]; omega) hlen.2
        have hgd := (Hg.out q hqn).2 s[k].toNat (by omega)
        have hnx := Aut.fold_next rows s k hlt q hfold.out
        rw [Aut.stepB_pos rows _ _ (by omega), Int.toNat_natCast] at hnx
        clear hlen
        generalize (rows.getD q []).getD s[k].toNat 0 = x at *
        have Hnx := Lib.hid hnx; clear hnx
        obtain ⟨hx0, hx1⟩ := hx
        obtain ⟨hg0, hg1⟩ := hgd
        go_wp2
        go_quiet (fail)
        go_wp2
        go_roundw
        case rel => exact ⟨k + 1, x, by omega, by go_num, rfl, hg0, hg1, Hnx, below_drewN hB _, hbox⟩
        case measure => simp [intOf]; omega
    · have Hf := Lib.hid (Aut.fold_stop rows s k q hfold.out (.inr (by omega)))
      go_wp2
      go_ret
      exact ⟨by rw [Hf.out]; rfl, hB⟩

namespace Aut
def tagOf (tags : List Int) (q : Int) : Int := if q < 0 then -1 else tags.getD q.toNat 0
end Aut

set_option maxRecDepth 100000 in
theorem dfaTag_bad (v : Value) (rows : List (List Int)) (tags : List Int) (s : ByteArray) (w : World) (hd : DfaAt w v rows tags) (he : 0 < Aut.err rows tags) :
    Calls Try.prog 27 #[v, .string s] w fun e w' => e = .returned (.tuple #[.int .i64 0, .int .i64 (Aut.err rows tags)]) ∧ Below w.heap.size w w' := by
  have hd' := hd
  obtain ⟨v0, v1, rfl, hr, ht⟩ := hd
  go_enter Try.func27, Try.ntmps27
  go_wp2_with (go_at_call 26; refine (dfaRun_bad _ rows tags s _ (hd'.below ((Below.refl _ _).alloc (Nat.le_refl _) _)) he).mono ?_; rintro e w1 ⟨rfl, hb1⟩)
  go_ret2
  exact ⟨rfl, ((Below.refl _ _).alloc (Nat.le_refl _) _).trans (hb1.mono (by simp))⟩

set_option maxRecDepth 100000 in
theorem dfaTag_ok (v : Value) (rows : List (List Int)) (tags : List Int) (s : ByteArray) (hs : s.size ≤ maxLen) (w : World) (hd : DfaAt w v rows tags) (he : Aut.err rows tags = 0) :
    Calls Try.prog 27 #[v, .string s] w fun e w' => e = .returned (.tuple #[.int .i64 (Aut.tagOf tags (Aut.goes rows s.data.toList)), .int .i64 0]) ∧ Below w.heap.size w w' := by
  have hd' := hd
  have HE := Lib.hid he
  obtain ⟨hn1, hn0, hl, hg⟩ := Aut.err_good rows tags he
  clear he
  obtain ⟨hq0, hq1⟩ := Aut.fold_in rows tags hg s.data.toList 0 (by omega) (by omega)
  have hgo : s.data.toList.foldl (Aut.stepB rows) 0 = Aut.goes rows s.data.toList := by unfold Aut.goes; rfl
  rw [hgo] at hq0 hq1
  clear hgo
  have Hl := Lib.hid hl; have Hg := Lib.hid hg; clear hl hg
  obtain ⟨v0, v1, rfl, hr, ht⟩ := hd
  obtain ⟨ao, b, off, cap, rfl, c1, c2, c3, c4, c5⟩ := slInts ht
  obtain ⟨rfl, hb⟩ := c3 (by have := Hl.out; omega)
  have C4 := Lib.hid c4; clear c4 c5 c3
  unfold maxLen at c2
  generalize hgq : Aut.goes rows s.data.toList = q at *
  have Hgq := Lib.hid hgq; clear hgq
  by_cases hneg : q < 0
  · have Hf : Hid (Aut.tagOf tags q = -1) := Lib.hid (by rw [Aut.tagOf, if_pos hneg])
    go_enter Try.func27, Try.ntmps27
    go_wp2_with (go_at_call 26; refine (dfaRun_ok _ rows tags s hs _ (hd'.below ((Below.refl _ _).alloc (Nat.le_refl _) _)) HE.out).mono ?_; rintro e w1 ⟨rfl, hb1⟩; rw [Hgq.out]; obtain ⟨hcl, hfr⟩ := bcell hb1)
    go_ret2
    exact ⟨by rw [Hf.out]; rfl, ((Below.refl _ _).alloc (Nat.le_refl _) _).trans (hb1.mono (by simp))⟩
  · obtain ⟨q, rfl⟩ := Int.eq_ofNat_of_zero_le (show 0 ≤ q by omega)
    have Hf : Hid (Aut.tagOf tags q = tags.getD q 0) := Lib.hid (by rw [Aut.tagOf, if_neg hneg, Int.toNat_natCast])
    have hqt : q < tags.length := by have := Hl.out; omega
    have hcell := C4.out q hqt
    generalize tags.getD q 0 = t at *
    go_enter Try.func27, Try.ntmps27
    go_wp2_with (go_at_call 26; refine (dfaRun_ok _ rows tags s hs _ (hd'.below ((Below.refl _ _).alloc (Nat.le_refl _) _)) HE.out).mono ?_; rintro e w1 ⟨rfl, hb1⟩; rw [Hgq.out]; obtain ⟨hcl, hfr⟩ := bcell hb1; have hcell1 : w1.cell? ⟨b, off + q, none⟩ = some (.int .i64 t) := bkeep (((Below.refl _ _).alloc (Nat.le_refl _) _).trans (hb1.mono (by simp))) hcell)
    go_ret2
    exact ⟨by rw [Hf.out]; rfl, ((Below.refl _ _).alloc (Nat.le_refl _) _).trans (hb1.mono (by simp))⟩

set_option maxRecDepth 100000 in
theorem rtagOf_any (v : Value) (rows : List (List Int)) (tags : List Int) (q : Int) (w : World) (hd : DfaAt w v rows tags) (hq : q < tags.length) :
    Calls Try.prog 30 #[v, .int .i64 q] w fun e w' => e = .returned (.int .i64 (Aut.tagOf tags q)) ∧ Below w.heap.size w w' := by
  obtain ⟨v0, v1, rfl, hr, ht⟩ := hd
  obtain ⟨ao, b, off, cap, rfl, c1, c2, c3, c4, c5⟩ := slInts ht
  have C4 := Lib.hid c4; clear c4 c5
  unfold maxLen at c2
  by_cases hneg : q < 0
  · have Hf : Hid (Aut.tagOf tags q = -1) := Lib.hid (by rw [Aut.tagOf, if_pos hneg])
    clear c3
    go_enter Try.func30, Try.ntmps30
    go_wp2
    go_ret
    exact ⟨by rw [Hf.out]; rfl, (Below.refl _ _).alloc (Nat.le_refl _) _⟩
  · obtain ⟨q, rfl⟩ := Int.eq_ofNat_of_zero_le (show 0 ≤ q by omega)
    obtain ⟨rfl, hb⟩ := c3 (by omega)
    clear c3
    have Hf : Hid (Aut.tagOf tags q = tags.getD q 0) := Lib.hid (by rw [Aut.tagOf, if_neg hneg, Int.toNat_natCast])
    have hqt : q < tags.length := by omega
    have hcell := C4.out q hqt
    generalize tags.getD q 0 = t at *
    go_enter Try.func30, Try.ntmps30
    go_wp2
    go_ret
    exact ⟨by rw [Hf.out]; rfl, (Below.refl _ _).alloc (Nat.le_refl _) _⟩
end Go.Proofs.Ytlejdbabbakhlaa
