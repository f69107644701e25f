/-
  Parts of the proof of WholeSays, put together: SpecRt WsPush WsBegun DfaTag Makes SepRow RowsE UnpackDat Wide LexOne LexLong LexTok LexLex. (Helper texts.)
-/
import Derived.Test.YtahoapgmiecphaaG1
import Derived.Test.YtahoapgmiecphaaG2
import Derived.Test.YtahoapgmiecphaaG3
import Derived.Deep.RegionHeld
import Derived.Deep.QuietTactic
import Derived.Laws.Tables
import Derived.Deep.RegionLaw
import Derived.Laws.ResultCell
import Derived.Great.BuildSlice
import Derived.Lib.IndexBytes

/-
  spec.Right: what it computes.
-/
namespace Go.Proofs.Ytahoapgmiecphaa
set_option linter.unusedVariables false
open Go.ChangeShapes Go.WideShapes Go.ChangeAt Go.RowKit

/-- The box of what came in. -/
structure MadeBox (W : World) (X : Nat) (m : Mk.Md) (v0 : Value) (Pc : Array Value) (vt vp vr va vg : Value) : Prop where
  lt : X < W.heap.size
  c0 : W.cell? ⟨X, 0, none⟩ = some v0
  pk : W.rangeAt X 1 Pc.toList
  c258 : W.cell? ⟨X, 258, none⟩ = some vt
  c259 : W.cell? ⟨X, 259, none⟩ = some (.int .i64 m.2.2.1.1)
  c260 : W.cell? ⟨X, 260, none⟩ = some (.int .i64 m.2.2.1.2.1)
  c261 : W.cell? ⟨X, 261, none⟩ = some vp
  c262 : W.cell? ⟨X, 262, none⟩ = some (.int .i64 m.2.2.2.1)
  c263 : W.cell? ⟨X, 263, none⟩ = some vr
  c264 : W.cell? ⟨X, 264, none⟩ = some va
  c265 : W.cell? ⟨X, 265, none⟩ = some vg
theorem MadeBox.below {W W' : World} {X : Nat} {m : Mk.Md} {v0 : Value} {Pc : Array Value} {vt vp vr va vg : Value} {B : Nat} (h : MadeBox W X m v0 Pc vt vp vr va vg) (hb : Below B W W') (hX : X < B) : MadeBox W' X m v0 Pc vt vp vr va vg :=
  ⟨Nat.lt_of_lt_of_le h.lt hb.size, (hb.cell (p := ⟨X, _, none⟩) hX).trans h.c0, fun j v hv => (hb.cell (p := ⟨X, _, none⟩) hX).trans (h.pk j v hv), (hb.cell (p := ⟨X, _, none⟩) hX).trans h.c258, (hb.cell (p := ⟨X, _, none⟩) hX).trans h.c259, (hb.cell (p := ⟨X, _, none⟩) hX).trans h.c260,
   (hb.cell (p := ⟨X, _, none⟩) hX).trans h.c261, (hb.cell (p := ⟨X, _, none⟩) hX).trans h.c262, (hb.cell (p := ⟨X, _, none⟩) hX).trans h.c263, (hb.cell (p := ⟨X, _, none⟩) hX).trans h.c264, (hb.cell (p := ⟨X, _, none⟩) hX).trans h.c265⟩
theorem MadeAt.cell {F : Nat → Prop} {w : World} {A : Array Value} {m : Mk.Md} {v0 : Value} {Pc : Array Value} {vn vt vp vr va vg : Value} (h : MadeAt F w A m v0 Pc vn vt vp vr va vg) {W : World} {X : Nat} {T : TypeId} {fr : Nat × Nat} (hW : W.heap[X]? = some (.cells A T fr)) (i : Nat) (v : Value)
    (hv : (v0 :: (Pc.toList ++ [.int .i64 m.2.2.1.1, .int .i64 m.2.2.1.2.1, vp, .int .i64 m.2.2.2.1, vr, va, vg]))[i]? = some v) : W.cell? ⟨X, i, none⟩ = some v := by
  simp only [World.cell?, hW]
  rw [← h.cells, Array.getElem?_toList] at hv
  simpa using hv
theorem MadeAt.box {F : Nat → Prop} {w : World} {A : Array Value} {m : Mk.Md} {v0 : Value} {Pc : Array Value} {vn vt vp vr va vg : Value} (h : MadeAt F w A m v0 Pc vn vt vp vr va vg) {W : World} {X : Nat} {T : TypeId} {fr : Nat × Nat} (hW : W.heap[X]? = some (.cells A T fr)) :
    MadeBox W X m v0 Pc vt vp vr va vg := by
  have hp : Pc.toList.length = 258 := by rw [Array.length_toList]; exact h.psize
  have tail : ∀ k v, ([.int .i64 m.2.2.1.1, .int .i64 m.2.2.1.2.1, vp, .int .i64 m.2.2.2.1, vr, va, vg] : List Value)[k]? = some v → W.cell? ⟨X, 259 + k, none⟩ = some v := fun k v hv => h.cell hW _ _ (by
    rw [show 259 + k = (258 + k) + 1 by omega, List.getElem?_cons_succ, List.getElem?_append_right (by omega), hp, show 258 + k - 258 = k by omega]; exact hv)
  have mid : ∀ j v, Pc.toList[j]? = some v → W.cell? ⟨X, 1 + j, none⟩ = some v := fun j v hv => h.cell hW _ _ (by
    have hj : j < Pc.toList.length := (List.getElem?_eq_some_iff.1 hv).1
    rw [Nat.add_comm, List.getElem?_cons_succ, List.getElem?_append_left hj]; exact hv)
  exact ⟨(Array.getElem?_eq_some_iff.1 hW).1, h.cell hW 0 _ rfl, mid, mid 257 _ (by rw [Array.getElem?_toList]; exact h.packed.c257), tail 0 _ rfl, tail 1 _ rfl, tail 2 _ rfl, tail 3 _ rfl, tail 4 _ rfl, tail 5 _ rfl, tail 6 _ rfl⟩

set_option maxRecDepth 100000 in
set_option maxHeartbeats 8000000 in
theorem specRight_any (A : Array Value) (m : Mk.Md) (v0 : Value) (Pc : Array Value) (vn vt vp vr va vg : Value) (w : World) (F : Nat → Prop) (hF : ∀ b, F b → b < w.heap.size) (h : MadeAt F w A m v0 Pc vn vt vp vr va vg) :
    Calls Try.prog 75 #[.agg A] w fun e w' => e = .returned (.int .i64 (Mk.err m)) ∧ Below w.heap.size w w' := by
  have hB : Below w.heap.size w (w.alloc (.cells A 66)) := (Below.refl _ _).alloc (Nat.le_refl _) _
  have hbx : MadeBox (w.alloc (.cells A 66)) w.heap.size m v0 Pc vt vp vr va vg := h.box (heap_alloc_new _ _)
  have hpz : (Try.prog.info? 61).map (fun x => x.size) = some Pc.toList.length := by rw [Array.length_toList, h.psize]; kernel_rfl
  have HC1 : Hid (∀ W', Below w.heap.size w W' → Calls Try.prog 122 #[.agg Pc] W' fun e w' => e = .returned (.int .i64 (Pkd.err m.2.1.1 m.2.1.2.1 m.2.1.2.2)) ∧ Below W'.heap.size W' w') := Lib.hid (fun W' hW => smallCheck_any _ _ _ _ _ _ _ (h.packed.below hW))
  have HC2 : Hid (∀ W', Below w.heap.size w W' → Calls Try.prog 99 #[.agg #[.int .i64 m.2.2.1.1, .int .i64 m.2.2.1.2.1, vp]] W' fun e w' => e = .returned (.int .i64 (Gr.err m.2.2.1.1 m.2.2.1.2.1 m.2.2.1.2.2)) ∧ Below W'.heap.size W' w') :=
    Lib.hid (fun W' hW => cfgCheck_any _ _ _ _ _ F (fun b hb => Nat.lt_of_lt_of_le (hF b hb) hW.size) (Enc.mono _ h.prods (fun _ h => h) (fun b hb => hW.block b (hF b hb))))
  have HC3 : Hid (∀ W', Below w.heap.size w W' → Calls Try.prog 123 #[.agg #[.int .i64 m.2.2.1.1, .int .i64 m.2.2.1.2.1, vp], vr] W' fun e w' => e = .returned (.int .i64 (Rw.all m.2.2.1.1 m.2.2.1.2.1 m.2.2.1.2.2 m.2.2.2.2.1)) ∧ Below W'.heap.size W' w') :=
    Lib.hid (fun W' hW => llCheck_any _ _ _ _ _ _ _ F (fun b hb => Nat.lt_of_lt_of_le (hF b hb) hW.size) (Enc.mono _ h.prods (fun _ h => h) (fun b hb => hW.block b (hF b hb))) (Enc.mono _ h.rows (fun _ h => h) (fun b hb => hW.block b (hF b hb))))
  have HC4 : Hid (∀ W', Below w.heap.size w W' → Calls Try.prog 124 #[.agg #[.int .i64 m.2.2.1.1, .int .i64 m.2.2.1.2.1, vp], .agg #[va, vg]] W' fun e w' => e = .returned (.int .i64 (Tb.all m.2.2.1.1 m.2.2.1.2.1 m.2.2.1.2.2 m.2.2.2.2.2.1 m.2.2.2.2.2.2)) ∧ Below W'.heap.size W' w') :=
    Lib.hid (fun W' hW => lrCheck_any _ _ _ _ _ _ _ _ _ F (fun b hb => Nat.lt_of_lt_of_le (hF b hb) hW.size) (Enc.mono _ h.prods (fun _ h => h) (fun b hb => hW.block b (hF b hb))) (Enc.mono _ h.acts (fun _ h => h) (fun b hb => hW.block b (hF b hb))) (Enc.mono _ h.gts (fun _ h => h) (fun b hb => hW.block b (hF b hb))))
  have ho := h.ofs; have htg := h.tags
  obtain ⟨of, ⟨pof, pnext, ptags⟩, ⟨t, n, l⟩, mode, rows, acts, gts⟩ := m
  have HPZ := Lib.hid hpz
  clear h hF hpz
  simp only at HC1 HC2 HC3 HC4 ho htg
  obtain ⟨ao, bo, oo, co, rfl, _, o3, o4⟩ := Enc.sl1 (En := Enc.int .i64) (Value.int .i64) (fun _ _ _ h => h.1) rfl 0 ho
  obtain ⟨ag, bg, og, cg, rfl, _, g3, g4⟩ := Enc.sl1 (En := Enc.int .i64) (Value.int .i64) (fun _ _ _ h => h.1) rfl 0 htg
  have O3 := Lib.hid o3; have O4 := Lib.hid o4; have G3 := Lib.hid g3; have G4 := Lib.hid g4
  clear ho htg o3 o4 g3 g4
  have HM : Hid (∀ q, q = Mk.err (of, (pof, pnext, ptags), (t, n, l), mode, rows, acts, gts) → q = Mk.err (of, (pof, pnext, ptags), (t, n, l), mode, rows, acts, gts)) := Lib.hid (fun _ h => h)
  generalize hr : Mk.err (of, (pof, pnext, ptags), (t, n, l), mode, rows, acts, gts) = R
  have HR := Lib.hid hr; clear hr HM
  rw [Mk.err] at HR
  simp only at HR
  generalize Pkd.err pof pnext ptags = E1 at HC1 HR
  generalize Gr.err t n l = E2 at HC2 HR
  generalize Rw.all t n l rows = E3 at HC3 HR
  generalize Tb.all t n l acts gts = E4 at HC4 HR
  have HBX := Lib.hid hbx
  have hpk := hbx.pk
  clear hbx
  have HB := Lib.hid hB
  go_enter Try.func75, Try.ntmps75
  go_wp2_with (refine wpList_load_mid rfl 61 (.tmp 8) rfl w.heap.size 1 rfl Pc.toList _ hpk Try.underlying61 rfl HPZ.out ?_)
  clear hpk
  go_at_call 122; refine (HC1.out _ hB).mono ?_; rintro e w1 ⟨rfl, hb1⟩
  have hB1 := hB.trans (hb1.mono hB.size)
  have hbx1 := HBX.out.below hb1 (by simp)
  by_cases e1 : E1 ≠ 0
  · have e1b : (E1 != 0) = true := by rw [bne_iff_ne]; exact e1
    have HE : Hid (E1 = R) := Lib.hid (by rw [← HR.out, if_pos e1])
    clear e1
    go_wp2_with (fail)
    go_ret
    exact ⟨by rw [← HE.out]; rfl, hB1⟩
  have e1' : E1 = 0 := Decidable.not_not.1 e1
  replace HR : Hid _ := Lib.hid (by have := HR.out; rw [if_neg e1] at this; exact this)
  subst e1'
  clear e1 hB hb1
  obtain ⟨hl, c0, cp, c258, c259, c260, c261, c262, c263, c264, c265⟩ := id hbx1
  have HBX1 := Lib.hid hbx1; clear hbx1
  simp only at c259 c260 c262
  clear cp
  go_wp2_with (fail)
  go_at_call 99; refine (HC2.out _ hB1).mono ?_; rintro e w2 ⟨rfl, hb2⟩
  have hB2 := hB1.trans (hb2.mono hB1.size)
  have hbx2 := HBX1.out.below hb2 hl
  clear hl c0 c258 c259 c260 c261 c262 c263 c264 c265 hb2
  obtain ⟨hl, c0, cp, c258, c259, c260, c261, c262, c263, c264, c265⟩ := id hbx2
  have HBX2 := Lib.hid hbx2; clear hbx2
  simp only at c259 c260 c262
  clear cp
  by_cases e2 : E2 ≠ 0 ∨ of.length = 0 ∨ 20 < of.length
  · have HE : Hid (1 = R) := Lib.hid (by rw [← HR.out, if_pos e2])
    by_cases e3 : E2 ≠ 0
    · have e3b : (E2 != 0) = true := by rw [bne_iff_ne]; exact e3
      clear e2 e3
      go_wp2
      go_ret
      exact ⟨by rw [← HE.out]; rfl, hB2⟩
    have e3b : (E2 != 0) = false := by rw [bne_eq_false_iff_eq]; omega
    by_cases e4 : of.length = 0
    · have e4b : ((of.length : Int) == 0) = true := by rw [beq_iff_eq]; omega
      clear e2 e3 e4
      go_wp2
      go_ret
      exact ⟨by rw [← HE.out]; rfl, hB2⟩
    have e4b : ((of.length : Int) == 0) = false := by rw [beq_eq_false_iff_ne]; omega
    have e5 : 20 < of.length := by omega
    clear e2 e3 e4
    go_wp2
    go_ret
    exact ⟨by rw [← HE.out]; rfl, hB2⟩
  replace HR : Hid _ := Lib.hid (by have := HR.out; rw [if_neg e2] at this; exact this)
  have e3b : (E2 != 0) = false := by rw [bne_eq_false_iff_eq]; omega
  have e4b : ((of.length : Int) == 0) = false := by rw [beq_eq_false_iff_ne]; omega
  have e5 : of.length ≤ 20 := by omega
  clear e2
  go_wp2
  have HB2 := Lib.hid hB2
  go_loopw [5, 33] (fun _ i wr => ∃ k : Nat, k ≤ of.length ∧ i = .int .i64 k ∧ w2 = wr ∧ Hid (∀ j, j < k → -1 ≤ of.getD j 0 ∧ of.getD j 0 < t)) (fun _ i _ => of.length - (intOf i).toNat)
  case atStart => exact ⟨0, by omega, rfl, rfl, Lib.hid (fun j hj => absurd hj (by omega))⟩
  case round =>
    obtain ⟨k, hk, rfl, rfl, hok⟩ := hrel
    by_cases hlt : k < of.length
    · obtain ⟨rfl, hbo, _⟩ := O3.out (by omega)
      have hx1 := bkeep HB2.out (O4.out k hlt).1
      have hxw := wf64 (O4.out k hlt).2.2
      have HBAD : Hid (¬ (-1 ≤ of.getD k 0 ∧ of.getD k 0 < t) → 1 = R) := Lib.hid (fun g => by
        rw [← HR.out, if_pos (.inl (fun q => g (q k hlt)))])
      have HOK : Hid ((-1 ≤ of.getD k 0 ∧ of.getD k 0 < t) → ∀ j, j < k + 1 → -1 ≤ of.getD j 0 ∧ of.getD j 0 < t) := Lib.hid (fun h j hj => by
        rcases Nat.lt_succ_iff_lt_or_eq.1 hj with hj | rfl
        · exact hok.out j hj
        · exact h)
      generalize of.getD k 0 = y at hx1 hxw HBAD HOK
      by_cases y1 : y < -1
      · have HE := Lib.hid (HBAD.out (by omega))
        go_wp2
        go_ret
        exact ⟨by rw [← HE.out]; rfl, HB2.out⟩
      by_cases y2 : t ≤ y
      · have HE := Lib.hid (HBAD.out (by omega))
        go_wp2
        go_ret
        exact ⟨by rw [← HE.out]; rfl, HB2.out⟩
      have HX := Lib.hid (HOK.out (by omega))
      go_wp2
      go_roundw
      case rel => exact ⟨k + 1, by omega, by go_num, by first | rfl | trivial, HX⟩
      case measure => simp [intOf]; omega
    obtain rfl : k = of.length := by omega
    have HOF : Hid (Mk.ofGood t of) := Lib.hid hok.out
    go_wp2
    go_loopw [7, 51] (fun _ i wr => ∃ k : Nat, k ≤ ptags.length ∧ i = .int .i64 k ∧ w2 = wr ∧ Hid (∀ j, j < k → ptags.getD j 0 < of.length)) (fun _ i _ => ptags.length - (intOf i).toNat)
    case atStart => exact ⟨0, by omega, rfl, rfl, Lib.hid (fun j hj => absurd hj (by omega))⟩
    case round =>
      obtain ⟨k, hk, rfl, rfl, hok⟩ := hrel
      by_cases hlt : k < ptags.length
      · obtain ⟨rfl, hbo, _⟩ := G3.out (by omega)
        have hx1 := bkeep HB2.out (G4.out k hlt).1
        have hxw := wf64 (G4.out k hlt).2.2
        have HBAD : Hid (¬ (ptags.getD k 0 < of.length) → 1 = R) := Lib.hid (fun g => by
          rw [← HR.out, if_pos (.inr (fun q => g (q k hlt)))])
        have HOK : Hid ((ptags.getD k 0 < of.length) → ∀ j, j < k + 1 → ptags.getD j 0 < of.length) := Lib.hid (fun h j hj => by
          rcases Nat.lt_succ_iff_lt_or_eq.1 hj with hj | rfl
          · exact hok.out j hj
          · exact h)
        generalize ptags.getD k 0 = y at hx1 hxw HBAD HOK
        by_cases y1 : (of.length : Int) ≤ y
        · have HE := Lib.hid (HBAD.out (by omega))
          go_wp2
          go_ret
          exact ⟨by rw [← HE.out]; rfl, HB2.out⟩
        have HX := Lib.hid (HOK.out (by omega))
        go_wp2
        go_roundw
        case rel => exact ⟨k + 1, by omega, by go_num, by first | rfl | trivial, HX⟩
        case measure => simp [intOf]; omega
      obtain rfl : k = ptags.length := by omega
      replace HR : Hid _ := Lib.hid (by
        have h1 := HR.out
        have h2 : Mk.tagsGood of.length ptags := hok.out
        rw [if_neg (fun q => q.elim (fun q => q HOF.out) (fun q => q h2))] at h1
        exact h1)
      by_cases m1 : mode = 1
      · have HE : Hid (E3 = R) := Lib.hid (by rw [← HR.out, if_pos m1])
        have m1b : (mode == 1) = true := by rw [beq_iff_eq]; exact m1
        clear m1
        go_wp2_with (fail)
        go_at_call 123; refine (HC3.out _ hB2).mono ?_; rintro e w3 ⟨rfl, hb3⟩
        go_wp2
        go_ret
        exact ⟨by rw [← HE.out]; rfl, hB2.trans (hb3.mono hB2.size)⟩
      have m1b : (mode == 1) = false := by rw [beq_eq_false_iff_ne]; exact m1
      by_cases m2 : mode = 2
      · have HE : Hid (E4 = R) := Lib.hid (by rw [← HR.out, if_neg m1, if_pos m2])
        have m2b : (mode == 2) = true := by rw [beq_iff_eq]; exact m2
        clear m1 m2
        go_wp2_with (fail)
        go_at_call 124; refine (HC4.out _ hB2).mono ?_; rintro e w3 ⟨rfl, hb3⟩
        go_wp2
        go_ret
        exact ⟨by rw [← HE.out]; rfl, hB2.trans (hb3.mono hB2.size)⟩
      have HE : Hid (1 = R) := Lib.hid (by rw [← HR.out, if_neg m1, if_neg m2])
      have m2b : (mode == 2) = false := by rw [beq_eq_false_iff_ne]; exact m2
      clear m1 m2
      go_wp2
      go_ret
      exact ⟨by rw [← HE.out]; rfl, hB2⟩
end Go.Proofs.Ytahoapgmiecphaa

/-
  Push and end of package whole's two parsers: what they do to their block.
-/
namespace Go.Proofs.Ytahoapgmiecphaa
set_option linter.unusedVariables false
set_option linter.unusedSimpArgs false
open Go.ChangeShapes Go.WideShapes Go.ChangeAt Go.RowKit

theorem MadeAt.arr {F : Nat → Prop} {w : World} {A : Array Value} {m : Mk.Md} {v0 : Value} {Pc : Array Value} {vn vt vp vr va vg : Value} (h : MadeAt F w A m v0 Pc vn vt vp vr va vg) :
    A[0]? = some v0 ∧ A[259]? = some (.int .i64 m.2.2.1.1) ∧ A[260]? = some (.int .i64 m.2.2.1.2.1) ∧ A[261]? = some vp ∧ A[262]? = some (.int .i64 m.2.2.2.1) ∧ A[263]? = some vr ∧ A[264]? = some va ∧ A[265]? = some vg := by
  have hp : Pc.toList.length = 258 := by rw [Array.length_toList]; exact h.psize
  have tail : ∀ k v, ([.int .i64 m.2.2.1.1, .int .i64 m.2.2.1.2.1, vp, .int .i64 m.2.2.2.1, vr, va, vg] : List Value)[k]? = some v → A[259 + k]? = some v := fun k v hv => by
    rw [← Array.getElem?_toList, h.cells, show 259 + k = (258 + k) + 1 by omega, List.getElem?_cons_succ, List.getElem?_append_right (by omega), hp, show 258 + k - 258 = k by omega]; exact hv
  exact ⟨by rw [← Array.getElem?_toList, h.cells]; rfl, tail 0 _ rfl, tail 1 _ rfl, tail 2 _ rfl, tail 3 _ rfl, tail 4 _ rfl, tail 5 _ rfl, tail 6 _ rfl⟩

namespace Ws
theorem shows {w : World} {B : Nat} {e : TypeId} {size : Nat} {v : Value} {xs : List Value} (h : Own w B e size v xs) : ∃ ao n cap, v = .slice ao n cap := by
  rcases h.shape with ⟨h1, h2⟩ | ⟨g, cap, h1, _⟩
  · exact ⟨none, 0, 0, h1⟩
  · exact ⟨_, _, _, h1⟩
theorem finC_zero {last : Bool} {x : Int × List Cl.T × List (Int × Int)} {seen : Int} (h : (Cl.fin last x seen).err = 0) : (Cl.fin last x seen).over = 0 ∧ (last = false → (Cl.fin last x seen).done = false) := by
  by_cases hx : x.1 = 0
  · cases last
    · rw [Cl.fin_go hx]; exact ⟨rfl, fun _ => rfl⟩
    · rw [Cl.fin_end hx]; exact ⟨rfl, fun h => by cases h⟩
  · rw [Cl.fin_bad hx] at h; exact absurd h hx
theorem finS_zero {last : Bool} {x : Int × List Int × List (Int × Int)} {seen : Int} (h : (Bd.fin last x seen).err = 0) : (Bd.fin last x seen).over = 0 ∧ (last = false → (Bd.fin last x seen).done = false) := by
  by_cases hx : x.1 = 0
  · cases last
    · rw [Bd.fin_go hx]; exact ⟨rfl, fun _ => rfl⟩
    · rw [Bd.fin_end hx]; exact ⟨rfl, fun h => by cases h⟩
  · rw [Bd.fin_bad hx] at h; exact absurd h hx
theorem good_wf {t n : Int} {np : Nat} (ht : t ≤ 30) (hn : n ≤ 20) (hp : np ≤ 40) {F : Nat → Prop} {W : World} {x : Cl.T} (h : Cl.good t n np x = true) : Enc.todo.R F W (todoV x).cells.toList x := by
  obtain ⟨a, b, c, d⟩ := x
  have hb : (-9223372036854775808 ≤ b ∧ b ≤ 9223372036854775807) ∧ (-9223372036854775808 ≤ c ∧ c ≤ 9223372036854775807) ∧ (-9223372036854775808 ≤ d ∧ d ≤ 9223372036854775807) := by
    unfold Cl.good at h
    simp only at h
    split at h
    · simp only [decide_eq_true_eq] at h; omega
    · rw [Bool.and_eq_true, decide_eq_true_eq, Gr.right_iff] at h
      simp only at h
      omega
  exact ⟨[.bool a], _, rfl, rfl, [.int .i64 b], _, rfl, ⟨rfl, WalkArith.wf_i64 hb.1⟩, [.int .i64 c], [.int .i64 d], rfl, ⟨rfl, WalkArith.wf_i64 hb.2.1⟩, ⟨rfl, WalkArith.wf_i64 hb.2.2⟩⟩
theorem encC {t n : Int} {np : Nat} (ht : t ≤ 30) (hn : n ≤ 20) (hp : np ≤ 40) {w0 W : World} {μ : List Asrt} {v : Value} {j : Nat} {s : List Cl.T × Int} (hok : okC t n np j s) (h : St w0 W μ) (i : Nat) (hA : μ[i]? = some (aOwn 238 4 v (s.1.reverse.map todoV))) :
    (Enc.todo.sl 32).R (fun b => b < W.heap.size) W [v] s.1.reverse :=
  Own.enc (En := Enc.todo) (bytes := 32) (f := todoV) (h.ownAt i hA) rfl (fun a ha => good_wf ht hn hp (hok.2.2 a (List.mem_reverse.1 ha))) (fun b hb => ((h.nth i hA).fpOwn b hb).2) (by have := hok.2.1; rw [List.length_reverse]; omega)
theorem encS {m : Nat} (hm : m ≤ 1000) {w0 W : World} {μ : List Asrt} {v : Value} {j : Nat} {s : List Int × Int} (hok : okS m j s) (h : St w0 W μ) (i : Nat) (hA : μ[i]? = some (aOwn 3 1 v (s.1.map (Value.int .i64)))) :
    ((Enc.int .i64).sl 8).R (fun b => b < W.heap.size) W [v] s.1 :=
  Own.enc (En := Enc.int .i64) (bytes := 8) (f := Value.int .i64) (h.ownAt i hA) rfl (fun a ha => ⟨rfl, WalkArith.wf_i64 (by
    have h1 := (List.any_eq_false.1 hok.2.2.2) a ha
    simp only [Bd.out, Bool.or_eq_true, decide_eq_true_eq] at h1
    omega)⟩) (fun b hb => ((h.nth i hA).fpOwn b hb).2) (by have := hok.2.2.1; omega)
/-- Four cells stored, one behind another. -/
theorem set4 {w0 w : World} {μ : List Asrt} {g : Nat} {T : TypeId} {A Z : Array Value} {v : Value} {seen over : Int} {done : Bool} {m : Nat} (hA : A.size = m) (h : St w0 w (aCel g T (four A Z v seen over done) :: μ)) (v' : Value) (seen' over' : Int) (done' : Bool) :
    St w0 ((((w.setCell ⟨g, m, none⟩ v').setCell ⟨g, m + 1, none⟩ (.int .i64 seen')).setCell ⟨g, m + 2, none⟩ (.int .i64 over')).setCell ⟨g, m + 3, none⟩ (.bool done')) (aCel g T (four A Z v' seen' over' done') :: μ) := by
  have := (((h.setCel m v').setCel (m + 1) (.int .i64 seen')).setCel (m + 2) (.int .i64 over')).setCel (m + 3) (.bool done')
  rwa [four_set hA] at this
end Ws

set_option maxRecDepth 100000 in
set_option maxHeartbeats 4000000 in
theorem wsCPush (wb : World) (A : Array Value) (m : Mk.Md) (v0 : Value) (Pc : Array Value) (vn vt vp vr va vg : Value) (hm : MadeAt (fun b => b < wb.heap.size) wb A m v0 Pc vn vt vp vr va vg) (he : Rw.all m.2.2.1.1 m.2.2.1.2.1 m.2.2.1.2.2 m.2.2.2.2.1 = 0) (tt : Nat) (htt : (tt : Int) = m.2.2.1.1) (g : Nat) :
    Ws.PushBy (Ws.climber m.2.2.1.2.2 m.2.2.2.2.1 tt) (Ws.okC m.2.2.1.1 m.2.2.1.2.1 m.2.2.1.2.2.length) (Ws.InC g 228 A #[]) tt wb (fun c w Q => Calls Try.prog 205 #[.pointer (some ⟨g, 0, none⟩), .int .i64 (c : Int)] w Q) := by
  intro w0 w μ j s X c hbw hw0 hin hok hj hc hst
  obtain ⟨v, rfl⟩ := hin
  replace hst := hst.unpair
  obtain ⟨a0, a259, a260, a261, a262, a263, a264, a265⟩ := hm.arr
  have hz := Gr.err_zero (Cl.rw_zero he).1
  have hcc : (c : Int) ≤ m.2.2.1.1 := by omega
  have HC : Hid (∀ W, St w0 W (aCel g 228 (Ws.four A #[] v s.2 0 false) :: aOwn 238 4 v (s.1.reverse.map todoV) :: μ) → Below wb.heap.size wb W → Calls Try.prog 207 #[.agg #[.int .i64 m.2.2.1.1, .int .i64 m.2.2.1.2.1, vp], vr, .agg #[v, .int .i64 s.2, .int .i64 0, .bool false], .int .i64 (c : Int)] W (Cl.Ret (Cl.fin false (Cl.push m.2.2.1.2.2 m.2.2.2.2.1 c s.2 s.1) s.2) W)) := Lib.hid (fun W hW hbW => by
    have h := clPush_ok m.2.2.1.1 m.2.2.1.2.1 s.2 0 c false vp vr v m.2.2.1.2.2 m.2.2.2.2.1 s.1.reverse W (fun b => b < W.heap.size) (fun b h => h) (Enc.mono _ hm.prods (fun b hb => Nat.lt_of_lt_of_le hb hbW.size) (fun b hb => hbW.block b hb)) (Enc.mono _ hm.rows (fun b hb => Nat.lt_of_lt_of_le hb hbW.size) (fun b hb => hbW.block b hb)) (Ws.encC hz.2.1 hz.2.2.2.1 hz.2.2.2.2.1 hok hW 1 rfl) (by omega) (by rw [he]; exact Ws.okC_chk hok hj hcc)
    rw [List.reverse_reverse] at h
    exact h)
  have HZ := Lib.hid (Ws.finC_zero (last := false) (x := Cl.push m.2.2.1.2.2 m.2.2.2.2.1 c s.2 s.1) (seen := s.2))
  have hsz := hm.size
  have HSZ := Lib.hid hsz
  have y259 := hst.celAt (Ws.four_old (Z := #[]) (v := v) (seen := s.2) (over := 0) (done := false) a259)
  have y260 := hst.celAt (Ws.four_old (Z := #[]) (v := v) (seen := s.2) (over := 0) (done := false) a260)
  have y261 := hst.celAt (Ws.four_old (Z := #[]) (v := v) (seen := s.2) (over := 0) (done := false) a261)
  have y263 := hst.celAt (Ws.four_old (Z := #[]) (v := v) (seen := s.2) (over := 0) (done := false) a263)
  obtain ⟨b0, b1, b2, b3⟩ := Ws.four_new (A := A) (Z := #[]) (v := v) (seen := s.2) (over := 0) (done := false) hsz
  have y266 := hst.celAt b0; have y267 := hst.celAt b1; have y268 := hst.celAt b2; have y269 := hst.celAt b3
  simp only [Nat.reduceAdd] at y266 y267 y268 y269
  have HST := Lib.hid hst
  have HA := Lib.hid (And.intro a259 (And.intro a260 (And.intro a261 (And.intro a263 (And.intro a264 a265)))))
  have HBW := Lib.hid hbw
  simp only [Ws.climber]
  generalize (Cl.fin false (Cl.push m.2.2.1.2.2 m.2.2.2.2.1 c s.2 s.1) s.2) = r at *
  obtain ⟨e, st2, seen2, over2, done2, out⟩ := r
  simp only at HC HZ ⊢
  generalize m.2.2.1.1 = t at *
  generalize m.2.2.1.2.1 = n at *
  generalize hseen : s.2 = seen at *
  generalize hst1 : s.1.reverse.map todoV = s1 at *
  clear hst hm he hok hz hcc hsz a0 a259 a260 a261 a262 a263 a264 a265 b0 b1 b2 b3 hbw hw0 htt hj hseen hst1 hc 
  go_enter Try.func205, Try.ntmps205
  go_wp2_with (fail)
  refine wp_region_held_drew (S := (fun w' => w'.cell? ⟨g, 259, none⟩ = some (.int .i64 t) ∧ w'.cell? ⟨g, 260, none⟩ = some (.int .i64 n) ∧ w'.cell? ⟨g, 261, none⟩ = some vp ∧ w'.cell? ⟨g, 263, none⟩ = some vr)) (by kernel_rfl) ?_ (fun hHeld => ?_)
  · (try dsimp only); (first | exact ⟨y259, y260, y261, y263⟩ | exact ⟨z259, z260, z261, z263⟩ | exact ⟨x259, x260, x261, x263⟩)

  refine wpAnyH_take (i := 0) (v := ?_) rfl (by kernel_rfl) (by kernel_rfl) (by kernel_rfl) (fun _ _ _ h => h) (Or.inl ⟨by rfl, ?_⟩) (by assumption) ?_
  rotate_left; focus (intro w hSw; (try dsimp only at hSw); go_simp; try (with_reducible rfl); done)
  try simp only [List.getElem_toArray, List.getElem_cons_zero, List.getElem_cons_succ, Act.put, List.setIfInBounds_toArray, List.set_cons_zero, List.set_cons_succ]
  refine wpAnyH_take (i := 1) (v := ?_) rfl (by kernel_rfl) (by kernel_rfl) (by kernel_rfl) (fun _ _ _ h => h) (Or.inl ⟨by rfl, ?_⟩) (by assumption) ?_
  rotate_left; focus (intro w hSw; (try dsimp only at hSw); go_simp; try (with_reducible rfl); done)
  try simp only [List.getElem_toArray, List.getElem_cons_zero, List.getElem_cons_succ, Act.put, List.setIfInBounds_toArray, List.set_cons_zero, List.set_cons_succ]
  refine wpAnyH_take (i := 2) (v := ?_) rfl (by kernel_rfl) (by kernel_rfl) (by kernel_rfl) (fun _ _ _ h => h) (Or.inl ⟨by rfl, ?_⟩) (by assumption) ?_
  rotate_left; focus (intro w hSw; (try dsimp only at hSw); go_simp; try (with_reducible rfl); done)
  try simp only [List.getElem_toArray, List.getElem_cons_zero, List.getElem_cons_succ, Act.put, List.setIfInBounds_toArray, List.set_cons_zero, List.set_cons_succ]
  refine wpAnyH_take (i := 3) (v := ?_) rfl (by kernel_rfl) (by kernel_rfl) (by kernel_rfl) (fun _ _ _ h => h) (Or.inl ⟨by rfl, ?_⟩) (by assumption) ?_
  rotate_left; focus (intro w hSw; (try dsimp only at hSw); go_simp; try (with_reducible rfl); done)
  try simp only [List.getElem_toArray, List.getElem_cons_zero, List.getElem_cons_succ, Act.put, List.setIfInBounds_toArray, List.set_cons_zero, List.set_cons_succ]
  refine wpAnyH_take (i := 4) (v := ?_) rfl (by kernel_rfl) (by kernel_rfl) (by kernel_rfl) (fun _ _ _ h => h) (Or.inl ⟨by rfl, ?_⟩) (by assumption) ?_
  rotate_left; focus (intro w hSw; (try dsimp only at hSw); go_simp; try (with_reducible rfl); done)
  try simp only [List.getElem_toArray, List.getElem_cons_zero, List.getElem_cons_succ, Act.put, List.setIfInBounds_toArray, List.set_cons_zero, List.set_cons_succ]
  refine wpAnyH_take (i := 5) (v := ?_) rfl (by kernel_rfl) (by kernel_rfl) (by kernel_rfl) (fun _ _ _ h => h) (Or.inl ⟨by rfl, ?_⟩) (by assumption) ?_
  rotate_left; focus (intro w hSw; (try dsimp only at hSw); go_simp; try (with_reducible rfl); done)
  try simp only [List.getElem_toArray, List.getElem_cons_zero, List.getElem_cons_succ, Act.put, List.setIfInBounds_toArray, List.set_cons_zero, List.set_cons_succ]
  refine wpAnyH_take (i := 6) (v := ?_) rfl (by kernel_rfl) (by kernel_rfl) (by kernel_rfl) (fun _ _ _ h => h) (Or.inl ⟨by rfl, ?_⟩) (by assumption) ?_
  rotate_left; focus (intro w hSw; (try dsimp only at hSw); go_simp; try (with_reducible rfl); done)
  try simp only [List.getElem_toArray, List.getElem_cons_zero, List.getElem_cons_succ, Act.put, List.setIfInBounds_toArray, List.set_cons_zero, List.set_cons_succ]
  refine wpAnyH_take (i := 7) (v := ?_) rfl (by kernel_rfl) (by kernel_rfl) (by kernel_rfl) (fun _ _ _ h => h) (Or.inl ⟨by rfl, ?_⟩) (by assumption) ?_
  rotate_left; focus (intro w hSw; (try dsimp only at hSw); go_simp; try (with_reducible rfl); done)
  try simp only [List.getElem_toArray, List.getElem_cons_zero, List.getElem_cons_succ, Act.put, List.setIfInBounds_toArray, List.set_cons_zero, List.set_cons_succ]
  refine wpAnyH_take (i := 8) (v := ?_) rfl (by kernel_rfl) (by kernel_rfl) (by kernel_rfl) (fun _ _ _ h => h) (Or.inl ⟨by rfl, ?_⟩) (by assumption) ?_
  rotate_left; focus (intro w hSw; (try dsimp only at hSw); go_simp; try (with_reducible rfl); done)
  try simp only [List.getElem_toArray, List.getElem_cons_zero, List.getElem_cons_succ, Act.put, List.setIfInBounds_toArray, List.set_cons_zero, List.set_cons_succ]
  refine wpAnyH_take (i := 9) (v := ?_) rfl (by kernel_rfl) (by kernel_rfl) (by kernel_rfl) (fun _ _ _ h => h) (Or.inl ⟨by rfl, ?_⟩) (by assumption) ?_
  rotate_left; focus (intro w hSw; (try dsimp only at hSw); go_simp; try (with_reducible rfl); done)
  try simp only [List.getElem_toArray, List.getElem_cons_zero, List.getElem_cons_succ, Act.put, List.setIfInBounds_toArray, List.set_cons_zero, List.set_cons_succ]
  refine wpAnyH_take (i := 10) (v := ?_) rfl (by kernel_rfl) (by kernel_rfl) (by kernel_rfl) (fun _ _ _ h => h) (Or.inl ⟨by rfl, ?_⟩) (by assumption) ?_
  rotate_left; focus (intro w hSw; (try dsimp only at hSw); go_simp; try (with_reducible rfl); done)
  try simp only [List.getElem_toArray, List.getElem_cons_zero, List.getElem_cons_succ, Act.put, List.setIfInBounds_toArray, List.set_cons_zero, List.set_cons_succ]
  refine wpAnyH_take (i := 11) (v := ?_) rfl (by kernel_rfl) (by kernel_rfl) (by kernel_rfl) (fun _ _ _ h => h) (Or.inl ⟨by rfl, ?_⟩) (by assumption) ?_
  rotate_left; focus (intro w hSw; (try dsimp only at hSw); go_simp; try (with_reducible rfl); done)
  try simp only [List.getElem_toArray, List.getElem_cons_zero, List.getElem_cons_succ, Act.put, List.setIfInBounds_toArray, List.set_cons_zero, List.set_cons_succ]
  refine wpAnyH_take (i := 12) (v := ?_) rfl (by kernel_rfl) (by kernel_rfl) (by kernel_rfl) (fun _ _ _ h => h) (Or.inl ⟨by rfl, ?_⟩) (by assumption) ?_
  rotate_left; focus (intro w hSw; (try dsimp only at hSw); go_simp; try (with_reducible rfl); done)
  try simp only [List.getElem_toArray, List.getElem_cons_zero, List.getElem_cons_succ, Act.put, List.setIfInBounds_toArray, List.set_cons_zero, List.set_cons_succ]
  refine wpAnyH_take (i := 13) (v := ?_) rfl (by kernel_rfl) (by kernel_rfl) (by kernel_rfl) (fun _ _ _ h => h) (Or.inl ⟨by rfl, ?_⟩) (by assumption) ?_
  rotate_left; focus (intro w hSw; (try dsimp only at hSw); go_simp; try (with_reducible rfl); done)
  try simp only [List.getElem_toArray, List.getElem_cons_zero, List.getElem_cons_succ, Act.put, List.setIfInBounds_toArray, List.set_cons_zero, List.set_cons_succ]
  refine wpAnyH_take (i := 15) (v := ?_) rfl (by kernel_rfl) (by kernel_rfl) (by kernel_rfl) (fun _ _ _ h => h) (Or.inl ⟨by rfl, ?_⟩) (by assumption) ?_
  rotate_left; focus (intro w hSw; (try dsimp only at hSw); go_simp; try (with_reducible rfl); done)
  try simp only [List.getElem_toArray, List.getElem_cons_zero, List.getElem_cons_succ, Act.put, List.setIfInBounds_toArray, List.set_cons_zero, List.set_cons_succ]
  refine wpAnyH_ready (rs := [14]) (by kernel_rfl) (by simp) ?_
  refine AllReadyH.cons rfl (fun K hK => ?_) AllReadyH.nil
  go_simp
  refine hK.out _ _ ?_ (fun hHeld => ?_)
  · (try dsimp only); (first | exact ⟨y259, y260, y261, y263⟩ | exact ⟨z259, z260, z261, z263⟩ | exact ⟨x259, x260, x261, x263⟩)
  clear hK K
  try simp only [List.getElem_toArray, List.getElem_cons_zero, List.getElem_cons_succ, Act.put, List.setIfInBounds_toArray, List.set_cons_zero, List.set_cons_succ]
  refine wpAnyH_ready (rs := [16]) (by kernel_rfl) (by simp) ?_
  refine AllReadyH.cons rfl (fun K hK => ?_) AllReadyH.nil
  go_simp
  (go_at_call 207; refine (HC.out _ HST.out.drew HBW.out.drew).mono ?_; rintro e1 w1 ⟨vs2, ve, rfl, hr⟩; simp only at hr; obtain ⟨av2, nv2, cv2, rfl⟩ := Ws.shows (hr.ownAt 0 rfl); have HST1 := Lib.hid (show St w0 w1 (aCel g 228 (Ws.four A #[] v seen 0 false) :: aOwn 238 4 (.slice av2 nv2 cv2) (st2.map todoV) :: aOwn 76 2 ve (out.map pairV) :: μ) from (HST.out.drew.joined hr).pick (ρ := aCel g 228 (Ws.four A #[] v seen 0 false) :: aOwn 238 4 (.slice av2 nv2 cv2) (st2.map todoV) :: aOwn 76 2 ve (out.map pairV) :: μ) [2, 0, 1] 4 rfl rfl); have z259 := HST1.out.celAt (Ws.four_old (Z := #[]) (v := v) (seen := seen) (over := 0) (done := false) HA.out.1); have z260 := HST1.out.celAt (Ws.four_old (Z := #[]) (v := v) (seen := seen) (over := 0) (done := false) HA.out.2.1); have z261 := HST1.out.celAt (Ws.four_old (Z := #[]) (v := v) (seen := seen) (over := 0) (done := false) HA.out.2.2.1); have z263 := HST1.out.celAt (Ws.four_old (Z := #[]) (v := v) (seen := seen) (over := 0) (done := false) HA.out.2.2.2.1); have f266 := HST1.out.celFree 266; have g266 := HST1.out.celAt (Ws.four_new (A := A) (Z := #[]) (v := v) (seen := seen) (over := 0) (done := false) HSZ.out).1; have f267 := HST1.out.celFree 267; have g267 := HST1.out.celAt (Ws.four_new (A := A) (Z := #[]) (v := v) (seen := seen) (over := 0) (done := false) HSZ.out).2.1; have f268 := HST1.out.celFree 268; have g268 := HST1.out.celAt (Ws.four_new (A := A) (Z := #[]) (v := v) (seen := seen) (over := 0) (done := false) HSZ.out).2.2.1; have f269 := HST1.out.celFree 269; have g269 := HST1.out.celAt (Ws.four_new (A := A) (Z := #[]) (v := v) (seen := seen) (over := 0) (done := false) HSZ.out).2.2.2; simp only [Nat.reduceAdd] at g266 g267 g268 g269; clear hr)
  refine hK.out _ _ ?_ (fun hHeld => ?_)
  · (try dsimp only); (first | exact ⟨y259, y260, y261, y263⟩ | exact ⟨z259, z260, z261, z263⟩ | exact ⟨x259, x260, x261, x263⟩)
  clear hK K
  try simp only [List.getElem_toArray, List.getElem_cons_zero, List.getElem_cons_succ, Act.put, List.setIfInBounds_toArray, List.set_cons_zero, List.set_cons_succ]
  refine wpAnyH_take (i := 17) (v := ?_) rfl (by kernel_rfl) (by kernel_rfl) (by kernel_rfl) (fun _ _ _ h => h) (Or.inl ⟨by rfl, ?_⟩) (by assumption) ?_
  rotate_left; focus (intro w hSw; (try dsimp only at hSw); go_simp; try (with_reducible rfl); done)
  try simp only [List.getElem_toArray, List.getElem_cons_zero, List.getElem_cons_succ, Act.put, List.setIfInBounds_toArray, List.set_cons_zero, List.set_cons_succ]
  refine wpAnyH_take (i := 18) (v := ?_) rfl (by kernel_rfl) (by kernel_rfl) (by kernel_rfl) (fun _ _ _ h => h) (Or.inl ⟨by rfl, ?_⟩) (by assumption) ?_
  rotate_left; focus (intro w hSw; (try dsimp only at hSw); go_simp; try (with_reducible rfl); done)
  try simp only [List.getElem_toArray, List.getElem_cons_zero, List.getElem_cons_succ, Act.put, List.setIfInBounds_toArray, List.set_cons_zero, List.set_cons_succ]
  refine wpAnyH_take (i := 19) (v := ?_) rfl (by kernel_rfl) (by kernel_rfl) (by kernel_rfl) (fun _ _ _ h => h) (Or.inl ⟨by rfl, ?_⟩) (by assumption) ?_
  rotate_left; focus (intro w hSw; (try dsimp only at hSw); go_simp; try (with_reducible rfl); done)
  try simp only [List.getElem_toArray, List.getElem_cons_zero, List.getElem_cons_succ, Act.put, List.setIfInBounds_toArray, List.set_cons_zero, List.set_cons_succ]
  refine wpAnyH_take (i := 20) (v := ?_) rfl (by kernel_rfl) (by kernel_rfl) (by kernel_rfl) (fun _ _ _ h => h) (Or.inl ⟨by rfl, ?_⟩) (by assumption) ?_
  rotate_left; focus (intro w hSw; (try dsimp only at hSw); go_simp; try (with_reducible rfl); done)
  try simp only [List.getElem_toArray, List.getElem_cons_zero, List.getElem_cons_succ, Act.put, List.setIfInBounds_toArray, List.set_cons_zero, List.set_cons_succ]
  refine wpAnyH_take (i := 21) (v := ?_) rfl (by kernel_rfl) (by kernel_rfl) (by kernel_rfl) (fun _ _ _ h => h) (Or.inl ⟨by rfl, ?_⟩) (by assumption) ?_
  rotate_left; focus (intro w hSw; (try dsimp only at hSw); go_simp; try (with_reducible rfl); done)
  try simp only [List.getElem_toArray, List.getElem_cons_zero, List.getElem_cons_succ, Act.put, List.setIfInBounds_toArray, List.set_cons_zero, List.set_cons_succ]
  refine wpAnyH_take (i := 22) (v := ?_) rfl (by kernel_rfl) (by kernel_rfl) (by kernel_rfl) (fun _ _ _ h => h) (Or.inl ⟨by rfl, ?_⟩) (by assumption) ?_
  rotate_left; focus (intro w hSw; (try dsimp only at hSw); go_simp; try (with_reducible rfl); done)
  try simp only [List.getElem_toArray, List.getElem_cons_zero, List.getElem_cons_succ, Act.put, List.setIfInBounds_toArray, List.set_cons_zero, List.set_cons_succ]
  refine wpAnyH_ready (rs := [23]) (by kernel_rfl) (by simp) ?_
  refine AllReadyH.cons rfl (fun K hK => ?_) AllReadyH.nil
  (go_simp; have HST2 := Lib.hid (Ws.set4 HSZ.out HST1.out (.slice av2 nv2 cv2) seen2 over2 done2); simp only [Nat.reduceAdd] at HST2; have x259 := HST2.out.celAt (Ws.four_old (Z := #[]) (v := .slice av2 nv2 cv2) (seen := seen2) (over := over2) (done := done2) HA.out.1); have x260 := HST2.out.celAt (Ws.four_old (Z := #[]) (v := .slice av2 nv2 cv2) (seen := seen2) (over := over2) (done := done2) HA.out.2.1); have x261 := HST2.out.celAt (Ws.four_old (Z := #[]) (v := .slice av2 nv2 cv2) (seen := seen2) (over := over2) (done := done2) HA.out.2.2.1); have x263 := HST2.out.celAt (Ws.four_old (Z := #[]) (v := .slice av2 nv2 cv2) (seen := seen2) (over := over2) (done := done2) HA.out.2.2.2.1); skip)
  refine hK.out _ _ ?_ (fun hHeld => ?_)
  · (try dsimp only); (first | exact ⟨y259, y260, y261, y263⟩ | exact ⟨z259, z260, z261, z263⟩ | exact ⟨x259, x260, x261, x263⟩)
  clear hK K
  try simp only [List.getElem_toArray, List.getElem_cons_zero, List.getElem_cons_succ, Act.put, List.setIfInBounds_toArray, List.set_cons_zero, List.set_cons_succ]
  refine wpAnyH_take (i := 24) (v := ?_) rfl (by kernel_rfl) (by kernel_rfl) (by kernel_rfl) (fun _ _ _ h => h) (Or.inl ⟨by rfl, ?_⟩) (by assumption) ?_
  rotate_left; focus (intro w hSw; (try dsimp only at hSw); go_simp; try (with_reducible rfl); done)
  try simp only [List.getElem_toArray, List.getElem_cons_zero, List.getElem_cons_succ, Act.put, List.setIfInBounds_toArray, List.set_cons_zero, List.set_cons_succ]
  refine wpAnyH_take (i := 25) (v := ?_) rfl (by kernel_rfl) (by kernel_rfl) (by kernel_rfl) (fun _ _ _ h => h) (Or.inl ⟨by rfl, ?_⟩) (by assumption) ?_
  rotate_left; focus (intro w hSw; (try dsimp only at hSw); go_simp; try (with_reducible rfl); done)
  try simp only [List.getElem_toArray, List.getElem_cons_zero, List.getElem_cons_succ, Act.put, List.setIfInBounds_toArray, List.set_cons_zero, List.set_cons_succ]
  refine wpAnyH_done (by kernel_rfl) ?_ _
  go_wp2
  go_ret2
  exact ⟨ve, _, rfl, (fun h0 => by obtain ⟨h1, h2⟩ := HZ.out h0; rw [h1, h2 (by trivial)]; simp only [Ws.InC, List.reverse_reverse]; exact ⟨_, rfl⟩), (HST2.out.pair)⟩

set_option maxRecDepth 100000 in
set_option maxHeartbeats 4000000 in
theorem wsCEnd (wb : World) (A : Array Value) (m : Mk.Md) (v0 : Value) (Pc : Array Value) (vn vt vp vr va vg : Value) (hm : MadeAt (fun b => b < wb.heap.size) wb A m v0 Pc vn vt vp vr va vg) (he : Rw.all m.2.2.1.1 m.2.2.1.2.1 m.2.2.1.2.2 m.2.2.2.2.1 = 0) (tt : Nat) (htt : (tt : Int) = m.2.2.1.1) (g : Nat) :
    Ws.EndBy (Ws.climber m.2.2.1.2.2 m.2.2.2.2.1 tt) (Ws.okC m.2.2.1.1 m.2.2.1.2.1 m.2.2.1.2.2.length) (Ws.InC g 228 A #[]) wb (fun w Q => Calls Try.prog 204 #[.pointer (some ⟨g, 0, none⟩)] w Q) := by
  intro w0 w μ j s X hbw hw0 hin hok hj hst
  obtain ⟨v, rfl⟩ := hin
  replace hst := hst.unpair
  obtain ⟨a0, a259, a260, a261, a262, a263, a264, a265⟩ := hm.arr
  have hz := Gr.err_zero (Cl.rw_zero he).1
  have hcc : (tt : Int) ≤ m.2.2.1.1 := by omega
  have HC : Hid (∀ W, St w0 W (aCel g 228 (Ws.four A #[] v s.2 0 false) :: aOwn 238 4 v (s.1.reverse.map todoV) :: μ) → Below wb.heap.size wb W → Calls Try.prog 206 #[.agg #[.int .i64 m.2.2.1.1, .int .i64 m.2.2.1.2.1, vp], vr, .agg #[v, .int .i64 s.2, .int .i64 0, .bool false]] W (Cl.Ret (Cl.fin true (Cl.ending m.2.2.1.2.2 m.2.2.2.2.1 tt s.1) s.2) W)) := Lib.hid (fun W hW hbW => by
    have h := clEnd_ok m.2.2.1.1 m.2.2.1.2.1 s.2 0 tt false vp vr v m.2.2.1.2.2 m.2.2.2.2.1 s.1.reverse W (fun b => b < W.heap.size) (fun b h => h) (Enc.mono _ hm.prods (fun b hb => Nat.lt_of_lt_of_le hb hbW.size) (fun b hb => hbW.block b hb)) (Enc.mono _ hm.rows (fun b hb => Nat.lt_of_lt_of_le hb hbW.size) (fun b hb => hbW.block b hb)) (Ws.encC hz.2.1 hz.2.2.2.1 hz.2.2.2.2.1 hok hW 1 rfl) (by omega) (by rw [he]; exact Ws.okC_chk hok hj hcc)
    rw [List.reverse_reverse] at h
    exact h)
  have HZ := Lib.hid (Ws.finC_zero (last := true) (x := Cl.ending m.2.2.1.2.2 m.2.2.2.2.1 tt s.1) (seen := s.2))
  have hsz := hm.size
  have HSZ := Lib.hid hsz
  have y259 := hst.celAt (Ws.four_old (Z := #[]) (v := v) (seen := s.2) (over := 0) (done := false) a259)
  have y260 := hst.celAt (Ws.four_old (Z := #[]) (v := v) (seen := s.2) (over := 0) (done := false) a260)
  have y261 := hst.celAt (Ws.four_old (Z := #[]) (v := v) (seen := s.2) (over := 0) (done := false) a261)
  have y263 := hst.celAt (Ws.four_old (Z := #[]) (v := v) (seen := s.2) (over := 0) (done := false) a263)
  obtain ⟨b0, b1, b2, b3⟩ := Ws.four_new (A := A) (Z := #[]) (v := v) (seen := s.2) (over := 0) (done := false) hsz
  have y266 := hst.celAt b0; have y267 := hst.celAt b1; have y268 := hst.celAt b2; have y269 := hst.celAt b3
  simp only [Nat.reduceAdd] at y266 y267 y268 y269
  have HST := Lib.hid hst
  have HA := Lib.hid (And.intro a259 (And.intro a260 (And.intro a261 (And.intro a263 (And.intro a264 a265)))))
  have HBW := Lib.hid hbw
  simp only [Ws.climber]
  generalize (Cl.fin true (Cl.ending m.2.2.1.2.2 m.2.2.2.2.1 tt s.1) s.2) = r at *
  obtain ⟨e, st2, seen2, over2, done2, out⟩ := r
  simp only at HC HZ ⊢
  generalize m.2.2.1.1 = t at *
  generalize m.2.2.1.2.1 = n at *
  generalize hseen : s.2 = seen at *
  generalize hst1 : s.1.reverse.map todoV = s1 at *
  clear hst hm he hok hz hcc hsz a0 a259 a260 a261 a262 a263 a264 a265 b0 b1 b2 b3 hbw hw0 htt hj hseen hst1  
  go_enter Try.func204, Try.ntmps204
  go_wp2_with (fail)
  refine wp_region_held_drew (S := (fun w' => w'.cell? ⟨g, 259, none⟩ = some (.int .i64 t) ∧ w'.cell? ⟨g, 260, none⟩ = some (.int .i64 n) ∧ w'.cell? ⟨g, 261, none⟩ = some vp ∧ w'.cell? ⟨g, 263, none⟩ = some vr)) (by kernel_rfl) ?_ (fun hHeld => ?_)
  · (try dsimp only); (first | exact ⟨y259, y260, y261, y263⟩ | exact ⟨z259, z260, z261, z263⟩ | exact ⟨x259, x260, x261, x263⟩)

  refine wpAnyH_take (i := 0) (v := ?_) rfl (by kernel_rfl) (by kernel_rfl) (by kernel_rfl) (fun _ _ _ h => h) (Or.inl ⟨by rfl, ?_⟩) (by assumption) ?_
  rotate_left; focus (intro w hSw; (try dsimp only at hSw); go_simp; try (with_reducible rfl); done)
  try simp only [List.getElem_toArray, List.getElem_cons_zero, List.getElem_cons_succ, Act.put, List.setIfInBounds_toArray, List.set_cons_zero, List.set_cons_succ]
  refine wpAnyH_take (i := 1) (v := ?_) rfl (by kernel_rfl) (by kernel_rfl) (by kernel_rfl) (fun _ _ _ h => h) (Or.inl ⟨by rfl, ?_⟩) (by assumption) ?_
  rotate_left; focus (intro w hSw; (try dsimp only at hSw); go_simp; try (with_reducible rfl); done)
  try simp only [List.getElem_toArray, List.getElem_cons_zero, List.getElem_cons_succ, Act.put, List.setIfInBounds_toArray, List.set_cons_zero, List.set_cons_succ]
  refine wpAnyH_take (i := 2) (v := ?_) rfl (by kernel_rfl) (by kernel_rfl) (by kernel_rfl) (fun _ _ _ h => h) (Or.inl ⟨by rfl, ?_⟩) (by assumption) ?_
  rotate_left; focus (intro w hSw; (try dsimp only at hSw); go_simp; try (with_reducible rfl); done)
  try simp only [List.getElem_toArray, List.getElem_cons_zero, List.getElem_cons_succ, Act.put, List.setIfInBounds_toArray, List.set_cons_zero, List.set_cons_succ]
  refine wpAnyH_take (i := 3) (v := ?_) rfl (by kernel_rfl) (by kernel_rfl) (by kernel_rfl) (fun _ _ _ h => h) (Or.inl ⟨by rfl, ?_⟩) (by assumption) ?_
  rotate_left; focus (intro w hSw; (try dsimp only at hSw); go_simp; try (with_reducible rfl); done)
  try simp only [List.getElem_toArray, List.getElem_cons_zero, List.getElem_cons_succ, Act.put, List.setIfInBounds_toArray, List.set_cons_zero, List.set_cons_succ]
  refine wpAnyH_take (i := 4) (v := ?_) rfl (by kernel_rfl) (by kernel_rfl) (by kernel_rfl) (fun _ _ _ h => h) (Or.inl ⟨by rfl, ?_⟩) (by assumption) ?_
  rotate_left; focus (intro w hSw; (try dsimp only at hSw); go_simp; try (with_reducible rfl); done)
  try simp only [List.getElem_toArray, List.getElem_cons_zero, List.getElem_cons_succ, Act.put, List.setIfInBounds_toArray, List.set_cons_zero, List.set_cons_succ]
  refine wpAnyH_take (i := 5) (v := ?_) rfl (by kernel_rfl) (by kernel_rfl) (by kernel_rfl) (fun _ _ _ h => h) (Or.inl ⟨by rfl, ?_⟩) (by assumption) ?_
  rotate_left; focus (intro w hSw; (try dsimp only at hSw); go_simp; try (with_reducible rfl); done)
  try simp only [List.getElem_toArray, List.getElem_cons_zero, List.getElem_cons_succ, Act.put, List.setIfInBounds_toArray, List.set_cons_zero, List.set_cons_succ]
  refine wpAnyH_take (i := 6) (v := ?_) rfl (by kernel_rfl) (by kernel_rfl) (by kernel_rfl) (fun _ _ _ h => h) (Or.inl ⟨by rfl, ?_⟩) (by assumption) ?_
  rotate_left; focus (intro w hSw; (try dsimp only at hSw); go_simp; try (with_reducible rfl); done)
  try simp only [List.getElem_toArray, List.getElem_cons_zero, List.getElem_cons_succ, Act.put, List.setIfInBounds_toArray, List.set_cons_zero, List.set_cons_succ]
  refine wpAnyH_take (i := 7) (v := ?_) rfl (by kernel_rfl) (by kernel_rfl) (by kernel_rfl) (fun _ _ _ h => h) (Or.inl ⟨by rfl, ?_⟩) (by assumption) ?_
  rotate_left; focus (intro w hSw; (try dsimp only at hSw); go_simp; try (with_reducible rfl); done)
  try simp only [List.getElem_toArray, List.getElem_cons_zero, List.getElem_cons_succ, Act.put, List.setIfInBounds_toArray, List.set_cons_zero, List.set_cons_succ]
  refine wpAnyH_take (i := 8) (v := ?_) rfl (by kernel_rfl) (by kernel_rfl) (by kernel_rfl) (fun _ _ _ h => h) (Or.inl ⟨by rfl, ?_⟩) (by assumption) ?_
  rotate_left; focus (intro w hSw; (try dsimp only at hSw); go_simp; try (with_reducible rfl); done)
  try simp only [List.getElem_toArray, List.getElem_cons_zero, List.getElem_cons_succ, Act.put, List.setIfInBounds_toArray, List.set_cons_zero, List.set_cons_succ]
  refine wpAnyH_take (i := 9) (v := ?_) rfl (by kernel_rfl) (by kernel_rfl) (by kernel_rfl) (fun _ _ _ h => h) (Or.inl ⟨by rfl, ?_⟩) (by assumption) ?_
  rotate_left; focus (intro w hSw; (try dsimp only at hSw); go_simp; try (with_reducible rfl); done)
  try simp only [List.getElem_toArray, List.getElem_cons_zero, List.getElem_cons_succ, Act.put, List.setIfInBounds_toArray, List.set_cons_zero, List.set_cons_succ]
  refine wpAnyH_take (i := 10) (v := ?_) rfl (by kernel_rfl) (by kernel_rfl) (by kernel_rfl) (fun _ _ _ h => h) (Or.inl ⟨by rfl, ?_⟩) (by assumption) ?_
  rotate_left; focus (intro w hSw; (try dsimp only at hSw); go_simp; try (with_reducible rfl); done)
  try simp only [List.getElem_toArray, List.getElem_cons_zero, List.getElem_cons_succ, Act.put, List.setIfInBounds_toArray, List.set_cons_zero, List.set_cons_succ]
  refine wpAnyH_take (i := 11) (v := ?_) rfl (by kernel_rfl) (by kernel_rfl) (by kernel_rfl) (fun _ _ _ h => h) (Or.inl ⟨by rfl, ?_⟩) (by assumption) ?_
  rotate_left; focus (intro w hSw; (try dsimp only at hSw); go_simp; try (with_reducible rfl); done)
  try simp only [List.getElem_toArray, List.getElem_cons_zero, List.getElem_cons_succ, Act.put, List.setIfInBounds_toArray, List.set_cons_zero, List.set_cons_succ]
  refine wpAnyH_take (i := 12) (v := ?_) rfl (by kernel_rfl) (by kernel_rfl) (by kernel_rfl) (fun _ _ _ h => h) (Or.inl ⟨by rfl, ?_⟩) (by assumption) ?_
  rotate_left; focus (intro w hSw; (try dsimp only at hSw); go_simp; try (with_reducible rfl); done)
  try simp only [List.getElem_toArray, List.getElem_cons_zero, List.getElem_cons_succ, Act.put, List.setIfInBounds_toArray, List.set_cons_zero, List.set_cons_succ]
  refine wpAnyH_take (i := 13) (v := ?_) rfl (by kernel_rfl) (by kernel_rfl) (by kernel_rfl) (fun _ _ _ h => h) (Or.inl ⟨by rfl, ?_⟩) (by assumption) ?_
  rotate_left; focus (intro w hSw; (try dsimp only at hSw); go_simp; try (with_reducible rfl); done)
  try simp only [List.getElem_toArray, List.getElem_cons_zero, List.getElem_cons_succ, Act.put, List.setIfInBounds_toArray, List.set_cons_zero, List.set_cons_succ]
  refine wpAnyH_ready (rs := [14]) (by kernel_rfl) (by simp) ?_
  refine AllReadyH.cons rfl (fun K hK => ?_) AllReadyH.nil
  go_simp
  refine hK.out _ _ ?_ (fun hHeld => ?_)
  · (try dsimp only); (first | exact ⟨y259, y260, y261, y263⟩ | exact ⟨z259, z260, z261, z263⟩ | exact ⟨x259, x260, x261, x263⟩)
  clear hK K
  try simp only [List.getElem_toArray, List.getElem_cons_zero, List.getElem_cons_succ, Act.put, List.setIfInBounds_toArray, List.set_cons_zero, List.set_cons_succ]
  refine wpAnyH_ready (rs := [15]) (by kernel_rfl) (by simp) ?_
  refine AllReadyH.cons rfl (fun K hK => ?_) AllReadyH.nil
  go_simp
  (go_at_call 206; refine (HC.out _ HST.out.drew HBW.out.drew).mono ?_; rintro e1 w1 ⟨vs2, ve, rfl, hr⟩; simp only at hr; obtain ⟨av2, nv2, cv2, rfl⟩ := Ws.shows (hr.ownAt 0 rfl); have HST1 := Lib.hid (show St w0 w1 (aCel g 228 (Ws.four A #[] v seen 0 false) :: aOwn 238 4 (.slice av2 nv2 cv2) (st2.map todoV) :: aOwn 76 2 ve (out.map pairV) :: μ) from (HST.out.drew.joined hr).pick (ρ := aCel g 228 (Ws.four A #[] v seen 0 false) :: aOwn 238 4 (.slice av2 nv2 cv2) (st2.map todoV) :: aOwn 76 2 ve (out.map pairV) :: μ) [2, 0, 1] 4 rfl rfl); have z259 := HST1.out.celAt (Ws.four_old (Z := #[]) (v := v) (seen := seen) (over := 0) (done := false) HA.out.1); have z260 := HST1.out.celAt (Ws.four_old (Z := #[]) (v := v) (seen := seen) (over := 0) (done := false) HA.out.2.1); have z261 := HST1.out.celAt (Ws.four_old (Z := #[]) (v := v) (seen := seen) (over := 0) (done := false) HA.out.2.2.1); have z263 := HST1.out.celAt (Ws.four_old (Z := #[]) (v := v) (seen := seen) (over := 0) (done := false) HA.out.2.2.2.1); have f266 := HST1.out.celFree 266; have g266 := HST1.out.celAt (Ws.four_new (A := A) (Z := #[]) (v := v) (seen := seen) (over := 0) (done := false) HSZ.out).1; have f267 := HST1.out.celFree 267; have g267 := HST1.out.celAt (Ws.four_new (A := A) (Z := #[]) (v := v) (seen := seen) (over := 0) (done := false) HSZ.out).2.1; have f268 := HST1.out.celFree 268; have g268 := HST1.out.celAt (Ws.four_new (A := A) (Z := #[]) (v := v) (seen := seen) (over := 0) (done := false) HSZ.out).2.2.1; have f269 := HST1.out.celFree 269; have g269 := HST1.out.celAt (Ws.four_new (A := A) (Z := #[]) (v := v) (seen := seen) (over := 0) (done := false) HSZ.out).2.2.2; simp only [Nat.reduceAdd] at g266 g267 g268 g269; clear hr)
  refine hK.out _ _ ?_ (fun hHeld => ?_)
  · (try dsimp only); (first | exact ⟨y259, y260, y261, y263⟩ | exact ⟨z259, z260, z261, z263⟩ | exact ⟨x259, x260, x261, x263⟩)
  clear hK K
  try simp only [List.getElem_toArray, List.getElem_cons_zero, List.getElem_cons_succ, Act.put, List.setIfInBounds_toArray, List.set_cons_zero, List.set_cons_succ]
  refine wpAnyH_take (i := 16) (v := ?_) rfl (by kernel_rfl) (by kernel_rfl) (by kernel_rfl) (fun _ _ _ h => h) (Or.inl ⟨by rfl, ?_⟩) (by assumption) ?_
  rotate_left; focus (intro w hSw; (try dsimp only at hSw); go_simp; try (with_reducible rfl); done)
  try simp only [List.getElem_toArray, List.getElem_cons_zero, List.getElem_cons_succ, Act.put, List.setIfInBounds_toArray, List.set_cons_zero, List.set_cons_succ]
  refine wpAnyH_take (i := 17) (v := ?_) rfl (by kernel_rfl) (by kernel_rfl) (by kernel_rfl) (fun _ _ _ h => h) (Or.inl ⟨by rfl, ?_⟩) (by assumption) ?_
  rotate_left; focus (intro w hSw; (try dsimp only at hSw); go_simp; try (with_reducible rfl); done)
  try simp only [List.getElem_toArray, List.getElem_cons_zero, List.getElem_cons_succ, Act.put, List.setIfInBounds_toArray, List.set_cons_zero, List.set_cons_succ]
  refine wpAnyH_take (i := 18) (v := ?_) rfl (by kernel_rfl) (by kernel_rfl) (by kernel_rfl) (fun _ _ _ h => h) (Or.inl ⟨by rfl, ?_⟩) (by assumption) ?_
  rotate_left; focus (intro w hSw; (try dsimp only at hSw); go_simp; try (with_reducible rfl); done)
  try simp only [List.getElem_toArray, List.getElem_cons_zero, List.getElem_cons_succ, Act.put, List.setIfInBounds_toArray, List.set_cons_zero, List.set_cons_succ]
  refine wpAnyH_take (i := 19) (v := ?_) rfl (by kernel_rfl) (by kernel_rfl) (by kernel_rfl) (fun _ _ _ h => h) (Or.inl ⟨by rfl, ?_⟩) (by assumption) ?_
  rotate_left; focus (intro w hSw; (try dsimp only at hSw); go_simp; try (with_reducible rfl); done)
  try simp only [List.getElem_toArray, List.getElem_cons_zero, List.getElem_cons_succ, Act.put, List.setIfInBounds_toArray, List.set_cons_zero, List.set_cons_succ]
  refine wpAnyH_take (i := 20) (v := ?_) rfl (by kernel_rfl) (by kernel_rfl) (by kernel_rfl) (fun _ _ _ h => h) (Or.inl ⟨by rfl, ?_⟩) (by assumption) ?_
  rotate_left; focus (intro w hSw; (try dsimp only at hSw); go_simp; try (with_reducible rfl); done)
  try simp only [List.getElem_toArray, List.getElem_cons_zero, List.getElem_cons_succ, Act.put, List.setIfInBounds_toArray, List.set_cons_zero, List.set_cons_succ]
  refine wpAnyH_take (i := 21) (v := ?_) rfl (by kernel_rfl) (by kernel_rfl) (by kernel_rfl) (fun _ _ _ h => h) (Or.inl ⟨by rfl, ?_⟩) (by assumption) ?_
  rotate_left; focus (intro w hSw; (try dsimp only at hSw); go_simp; try (with_reducible rfl); done)
  try simp only [List.getElem_toArray, List.getElem_cons_zero, List.getElem_cons_succ, Act.put, List.setIfInBounds_toArray, List.set_cons_zero, List.set_cons_succ]
  refine wpAnyH_ready (rs := [22]) (by kernel_rfl) (by simp) ?_
  refine AllReadyH.cons rfl (fun K hK => ?_) AllReadyH.nil
  (go_simp; have HST2 := Lib.hid (Ws.set4 HSZ.out HST1.out (.slice av2 nv2 cv2) seen2 over2 done2); simp only [Nat.reduceAdd] at HST2; have x259 := HST2.out.celAt (Ws.four_old (Z := #[]) (v := .slice av2 nv2 cv2) (seen := seen2) (over := over2) (done := done2) HA.out.1); have x260 := HST2.out.celAt (Ws.four_old (Z := #[]) (v := .slice av2 nv2 cv2) (seen := seen2) (over := over2) (done := done2) HA.out.2.1); have x261 := HST2.out.celAt (Ws.four_old (Z := #[]) (v := .slice av2 nv2 cv2) (seen := seen2) (over := over2) (done := done2) HA.out.2.2.1); have x263 := HST2.out.celAt (Ws.four_old (Z := #[]) (v := .slice av2 nv2 cv2) (seen := seen2) (over := over2) (done := done2) HA.out.2.2.2.1); skip)
  refine hK.out _ _ ?_ (fun hHeld => ?_)
  · (try dsimp only); (first | exact ⟨y259, y260, y261, y263⟩ | exact ⟨z259, z260, z261, z263⟩ | exact ⟨x259, x260, x261, x263⟩)
  clear hK K
  try simp only [List.getElem_toArray, List.getElem_cons_zero, List.getElem_cons_succ, Act.put, List.setIfInBounds_toArray, List.set_cons_zero, List.set_cons_succ]
  refine wpAnyH_take (i := 23) (v := ?_) rfl (by kernel_rfl) (by kernel_rfl) (by kernel_rfl) (fun _ _ _ h => h) (Or.inl ⟨by rfl, ?_⟩) (by assumption) ?_
  rotate_left; focus (intro w hSw; (try dsimp only at hSw); go_simp; try (with_reducible rfl); done)
  try simp only [List.getElem_toArray, List.getElem_cons_zero, List.getElem_cons_succ, Act.put, List.setIfInBounds_toArray, List.set_cons_zero, List.set_cons_succ]
  refine wpAnyH_take (i := 24) (v := ?_) rfl (by kernel_rfl) (by kernel_rfl) (by kernel_rfl) (fun _ _ _ h => h) (Or.inl ⟨by rfl, ?_⟩) (by assumption) ?_
  rotate_left; focus (intro w hSw; (try dsimp only at hSw); go_simp; try (with_reducible rfl); done)
  try simp only [List.getElem_toArray, List.getElem_cons_zero, List.getElem_cons_succ, Act.put, List.setIfInBounds_toArray, List.set_cons_zero, List.set_cons_succ]
  refine wpAnyH_done (by kernel_rfl) ?_ _
  go_wp2
  go_ret2
  exact ⟨ve, _, rfl, (HST2.out.pair)⟩

set_option maxRecDepth 100000 in
set_option maxHeartbeats 4000000 in
theorem wsSPush (wb : World) (A : Array Value) (m : Mk.Md) (v0 : Value) (Pc : Array Value) (vn vt vp vr va vg : Value) (hm : MadeAt (fun b => b < wb.heap.size) wb A m v0 Pc vn vt vp vr va vg) (he : Tb.all m.2.2.1.1 m.2.2.1.2.1 m.2.2.1.2.2 m.2.2.2.2.2.1 m.2.2.2.2.2.2 = 0) (tt : Nat) (htt : (tt : Int) = m.2.2.1.1) (g : Nat) :
    Ws.PushBy (Ws.stacker m.2.2.1.2.2 m.2.2.2.2.2.1 m.2.2.2.2.2.2 tt) (Ws.okS m.2.2.2.2.2.1.length) (Ws.InS g 234 A #[]) tt wb (fun c w Q => Calls Try.prog 222 #[.pointer (some ⟨g, 0, none⟩), .int .i64 (c : Int)] w Q) := by
  intro w0 w μ j s X c hbw hw0 hin hok hj hc hst
  obtain ⟨v, rfl⟩ := hin
  replace hst := hst.unpair
  obtain ⟨a0, a259, a260, a261, a262, a263, a264, a265⟩ := hm.arr
  have hz := Gr.err_zero (Bd.tb_zero he).1
  have hcc : (c : Int) ≤ m.2.2.1.1 := by omega
  have hm2 := (Bd.tb_zero he).2.1
  have HC : Hid (∀ W, St w0 W (aCel g 234 (Ws.four A #[] v s.2 0 false) :: aOwn 3 1 v (s.1.map (Value.int .i64)) :: μ) → Below wb.heap.size wb W → Calls Try.prog 224 #[.agg #[.int .i64 m.2.2.1.1, .int .i64 m.2.2.1.2.1, vp], .agg #[va, vg], .agg #[v, .int .i64 s.2, .int .i64 0, .bool false], .int .i64 (c : Int)] W (Bd.Ret (Bd.fin false (Bd.go m.2.2.1.2.2 m.2.2.2.2.2.1 m.2.2.2.2.2.2 s.2 c 2000 s.1 []) s.2) W)) := Lib.hid (fun W hW hbW => by
    exact bdPush_ok m.2.2.1.1 m.2.2.1.2.1 s.2 0 c false vp va vg v m.2.2.1.2.2 m.2.2.2.2.2.1 m.2.2.2.2.2.2 s.1 W (fun b => b < W.heap.size) (fun b h => h) (Enc.mono _ hm.prods (fun b hb => Nat.lt_of_lt_of_le hb hbW.size) (fun b hb => hbW.block b hb)) (Enc.mono _ hm.acts (fun b hb => Nat.lt_of_lt_of_le hb hbW.size) (fun b hb => hbW.block b hb)) (Enc.mono _ hm.gts (fun b hb => Nat.lt_of_lt_of_le hb hbW.size) (fun b hb => hbW.block b hb)) (Ws.encS (by omega) hok hW 1 rfl) (by omega) (by rw [he]; exact Ws.okS_chk hok hj hcc))
  have HZ := Lib.hid (Ws.finS_zero (last := false) (x := Bd.go m.2.2.1.2.2 m.2.2.2.2.2.1 m.2.2.2.2.2.2 s.2 c 2000 s.1 []) (seen := s.2))
  have hsz := hm.size
  have HSZ := Lib.hid hsz
  have y259 := hst.celAt (Ws.four_old (Z := #[]) (v := v) (seen := s.2) (over := 0) (done := false) a259)
  have y260 := hst.celAt (Ws.four_old (Z := #[]) (v := v) (seen := s.2) (over := 0) (done := false) a260)
  have y261 := hst.celAt (Ws.four_old (Z := #[]) (v := v) (seen := s.2) (over := 0) (done := false) a261)
  have y264 := hst.celAt (Ws.four_old (Z := #[]) (v := v) (seen := s.2) (over := 0) (done := false) a264)
  have y265 := hst.celAt (Ws.four_old (Z := #[]) (v := v) (seen := s.2) (over := 0) (done := false) a265)
  obtain ⟨b0, b1, b2, b3⟩ := Ws.four_new (A := A) (Z := #[]) (v := v) (seen := s.2) (over := 0) (done := false) hsz
  have y266 := hst.celAt b0; have y267 := hst.celAt b1; have y268 := hst.celAt b2; have y269 := hst.celAt b3
  simp only [Nat.reduceAdd] at y266 y267 y268 y269
  have HST := Lib.hid hst
  have HA := Lib.hid (And.intro a259 (And.intro a260 (And.intro a261 (And.intro a263 (And.intro a264 a265)))))
  have HBW := Lib.hid hbw
  simp only [Ws.stacker]
  generalize (Bd.fin false (Bd.go m.2.2.1.2.2 m.2.2.2.2.2.1 m.2.2.2.2.2.2 s.2 c 2000 s.1 []) s.2) = r at *
  obtain ⟨e, st2, seen2, over2, done2, out⟩ := r
  simp only at HC HZ ⊢
  generalize m.2.2.1.1 = t at *
  generalize m.2.2.1.2.1 = n at *
  generalize hseen : s.2 = seen at *
  generalize hst1 : s.1.map (Value.int .i64) = s1 at *
  clear hst hm he hok hz hcc hsz a0 a259 a260 a261 a262 a263 a264 a265 b0 b1 b2 b3 hbw hw0 htt hj hseen hst1 hc hm2
  go_enter Try.func222, Try.ntmps222
  go_wp2_with (fail)
  refine wp_region_held_drew (S := (fun w' => w'.cell? ⟨g, 259, none⟩ = some (.int .i64 t) ∧ w'.cell? ⟨g, 260, none⟩ = some (.int .i64 n) ∧ w'.cell? ⟨g, 261, none⟩ = some vp ∧ w'.cell? ⟨g, 264, none⟩ = some va ∧ w'.cell? ⟨g, 265, none⟩ = some vg)) (by kernel_rfl) ?_ (fun hHeld => ?_)
  · (try dsimp only); (first | exact ⟨y259, y260, y261, y264, y265⟩ | exact ⟨z259, z260, z261, z264, z265⟩ | exact ⟨x259, x260, x261, x264, x265⟩)

  refine wpAnyH_take (i := 0) (v := ?_) rfl (by kernel_rfl) (by kernel_rfl) (by kernel_rfl) (fun _ _ _ h => h) (Or.inl ⟨by rfl, ?_⟩) (by assumption) ?_
  rotate_left; focus (intro w hSw; (try dsimp only at hSw); go_simp; try (with_reducible rfl); done)
  try simp only [List.getElem_toArray, List.getElem_cons_zero, List.getElem_cons_succ, Act.put, List.setIfInBounds_toArray, List.set_cons_zero, List.set_cons_succ]
  refine wpAnyH_take (i := 1) (v := ?_) rfl (by kernel_rfl) (by kernel_rfl) (by kernel_rfl) (fun _ _ _ h => h) (Or.inl ⟨by rfl, ?_⟩) (by assumption) ?_
  rotate_left; focus (intro w hSw; (try dsimp only at hSw); go_simp; try (with_reducible rfl); done)
  try simp only [List.getElem_toArray, List.getElem_cons_zero, List.getElem_cons_succ, Act.put, List.setIfInBounds_toArray, List.set_cons_zero, List.set_cons_succ]
  refine wpAnyH_take (i := 2) (v := ?_) rfl (by kernel_rfl) (by kernel_rfl) (by kernel_rfl) (fun _ _ _ h => h) (Or.inl ⟨by rfl, ?_⟩) (by assumption) ?_
  rotate_left; focus (intro w hSw; (try dsimp only at hSw); go_simp; try (with_reducible rfl); done)
  try simp only [List.getElem_toArray, List.getElem_cons_zero, List.getElem_cons_succ, Act.put, List.setIfInBounds_toArray, List.set_cons_zero, List.set_cons_succ]
  refine wpAnyH_take (i := 3) (v := ?_) rfl (by kernel_rfl) (by kernel_rfl) (by kernel_rfl) (fun _ _ _ h => h) (Or.inl ⟨by rfl, ?_⟩) (by assumption) ?_
  rotate_left; focus (intro w hSw; (try dsimp only at hSw); go_simp; try (with_reducible rfl); done)
  try simp only [List.getElem_toArray, List.getElem_cons_zero, List.getElem_cons_succ, Act.put, List.setIfInBounds_toArray, List.set_cons_zero, List.set_cons_succ]
  refine wpAnyH_take (i := 4) (v := ?_) rfl (by kernel_rfl) (by kernel_rfl) (by kernel_rfl) (fun _ _ _ h => h) (Or.inl ⟨by rfl, ?_⟩) (by assumption) ?_
  rotate_left; focus (intro w hSw; (try dsimp only at hSw); go_simp; try (with_reducible rfl); done)
  try simp only [List.getElem_toArray, List.getElem_cons_zero, List.getElem_cons_succ, Act.put, List.setIfInBounds_toArray, List.set_cons_zero, List.set_cons_succ]
  refine wpAnyH_take (i := 5) (v := ?_) rfl (by kernel_rfl) (by kernel_rfl) (by kernel_rfl) (fun _ _ _ h => h) (Or.inl ⟨by rfl, ?_⟩) (by assumption) ?_
  rotate_left; focus (intro w hSw; (try dsimp only at hSw); go_simp; try (with_reducible rfl); done)
  try simp only [List.getElem_toArray, List.getElem_cons_zero, List.getElem_cons_succ, Act.put, List.setIfInBounds_toArray, List.set_cons_zero, List.set_cons_succ]
  refine wpAnyH_take (i := 6) (v := ?_) rfl (by kernel_rfl) (by kernel_rfl) (by kernel_rfl) (fun _ _ _ h => h) (Or.inl ⟨by rfl, ?_⟩) (by assumption) ?_
  rotate_left; focus (intro w hSw; (try dsimp only at hSw); go_simp; try (with_reducible rfl); done)
  try simp only [List.getElem_toArray, List.getElem_cons_zero, List.getElem_cons_succ, Act.put, List.setIfInBounds_toArray, List.set_cons_zero, List.set_cons_succ]
  refine wpAnyH_take (i := 7) (v := ?_) rfl (by kernel_rfl) (by kernel_rfl) (by kernel_rfl) (fun _ _ _ h => h) (Or.inl ⟨by rfl, ?_⟩) (by assumption) ?_
  rotate_left; focus (intro w hSw; (try dsimp only at hSw); go_simp; try (with_reducible rfl); done)
  try simp only [List.getElem_toArray, List.getElem_cons_zero, List.getElem_cons_succ, Act.put, List.setIfInBounds_toArray, List.set_cons_zero, List.set_cons_succ]
  refine wpAnyH_take (i := 8) (v := ?_) rfl (by kernel_rfl) (by kernel_rfl) (by kernel_rfl) (fun _ _ _ h => h) (Or.inl ⟨by rfl, ?_⟩) (by assumption) ?_
  rotate_left; focus (intro w hSw; (try dsimp only at hSw); go_simp; try (with_reducible rfl); done)
  try simp only [List.getElem_toArray, List.getElem_cons_zero, List.getElem_cons_succ, Act.put, List.setIfInBounds_toArray, List.set_cons_zero, List.set_cons_succ]
  refine wpAnyH_take (i := 9) (v := ?_) rfl (by kernel_rfl) (by kernel_rfl) (by kernel_rfl) (fun _ _ _ h => h) (Or.inl ⟨by rfl, ?_⟩) (by assumption) ?_
  rotate_left; focus (intro w hSw; (try dsimp only at hSw); go_simp; try (with_reducible rfl); done)
  try simp only [List.getElem_toArray, List.getElem_cons_zero, List.getElem_cons_succ, Act.put, List.setIfInBounds_toArray, List.set_cons_zero, List.set_cons_succ]
  refine wpAnyH_take (i := 10) (v := ?_) rfl (by kernel_rfl) (by kernel_rfl) (by kernel_rfl) (fun _ _ _ h => h) (Or.inl ⟨by rfl, ?_⟩) (by assumption) ?_
  rotate_left; focus (intro w hSw; (try dsimp only at hSw); go_simp; try (with_reducible rfl); done)
  try simp only [List.getElem_toArray, List.getElem_cons_zero, List.getElem_cons_succ, Act.put, List.setIfInBounds_toArray, List.set_cons_zero, List.set_cons_succ]
  refine wpAnyH_take (i := 11) (v := ?_) rfl (by kernel_rfl) (by kernel_rfl) (by kernel_rfl) (fun _ _ _ h => h) (Or.inl ⟨by rfl, ?_⟩) (by assumption) ?_
  rotate_left; focus (intro w hSw; (try dsimp only at hSw); go_simp; try (with_reducible rfl); done)
  try simp only [List.getElem_toArray, List.getElem_cons_zero, List.getElem_cons_succ, Act.put, List.setIfInBounds_toArray, List.set_cons_zero, List.set_cons_succ]
  refine wpAnyH_take (i := 12) (v := ?_) rfl (by kernel_rfl) (by kernel_rfl) (by kernel_rfl) (fun _ _ _ h => h) (Or.inl ⟨by rfl, ?_⟩) (by assumption) ?_
  rotate_left; focus (intro w hSw; (try dsimp only at hSw); go_simp; try (with_reducible rfl); done)
  try simp only [List.getElem_toArray, List.getElem_cons_zero, List.getElem_cons_succ, Act.put, List.setIfInBounds_toArray, List.set_cons_zero, List.set_cons_succ]
  refine wpAnyH_take (i := 13) (v := ?_) rfl (by kernel_rfl) (by kernel_rfl) (by kernel_rfl) (fun _ _ _ h => h) (Or.inl ⟨by rfl, ?_⟩) (by assumption) ?_
  rotate_left; focus (intro w hSw; (try dsimp only at hSw); go_simp; try (with_reducible rfl); done)
  try simp only [List.getElem_toArray, List.getElem_cons_zero, List.getElem_cons_succ, Act.put, List.setIfInBounds_toArray, List.set_cons_zero, List.set_cons_succ]
  refine wpAnyH_take (i := 15) (v := ?_) rfl (by kernel_rfl) (by kernel_rfl) (by kernel_rfl) (fun _ _ _ h => h) (Or.inl ⟨by rfl, ?_⟩) (by assumption) ?_
  rotate_left; focus (intro w hSw; (try dsimp only at hSw); go_simp; try (with_reducible rfl); done)
  try simp only [List.getElem_toArray, List.getElem_cons_zero, List.getElem_cons_succ, Act.put, List.setIfInBounds_toArray, List.set_cons_zero, List.set_cons_succ]
  refine wpAnyH_ready (rs := [14]) (by kernel_rfl) (by simp) ?_
  refine AllReadyH.cons rfl (fun K hK => ?_) AllReadyH.nil
  go_simp
  refine hK.out _ _ ?_ (fun hHeld => ?_)
  · (try dsimp only); (first | exact ⟨y259, y260, y261, y264, y265⟩ | exact ⟨z259, z260, z261, z264, z265⟩ | exact ⟨x259, x260, x261, x264, x265⟩)
  clear hK K
  try simp only [List.getElem_toArray, List.getElem_cons_zero, List.getElem_cons_succ, Act.put, List.setIfInBounds_toArray, List.set_cons_zero, List.set_cons_succ]
  refine wpAnyH_ready (rs := [16]) (by kernel_rfl) (by simp) ?_
  refine AllReadyH.cons rfl (fun K hK => ?_) AllReadyH.nil
  go_simp
  (go_at_call 224; refine (HC.out _ HST.out.drew HBW.out.drew).mono ?_; rintro e1 w1 ⟨vs2, ve, rfl, hr⟩; simp only at hr; obtain ⟨av2, nv2, cv2, rfl⟩ := Ws.shows (hr.ownAt 0 rfl); have HST1 := Lib.hid (show St w0 w1 (aCel g 234 (Ws.four A #[] v seen 0 false) :: aOwn 3 1 (.slice av2 nv2 cv2) (st2.map (Value.int .i64)) :: aOwn 76 2 ve (out.map pairV) :: μ) from (HST.out.drew.joined hr).pick (ρ := aCel g 234 (Ws.four A #[] v seen 0 false) :: aOwn 3 1 (.slice av2 nv2 cv2) (st2.map (Value.int .i64)) :: aOwn 76 2 ve (out.map pairV) :: μ) [2, 0, 1] 4 rfl rfl); have z259 := HST1.out.celAt (Ws.four_old (Z := #[]) (v := v) (seen := seen) (over := 0) (done := false) HA.out.1); have z260 := HST1.out.celAt (Ws.four_old (Z := #[]) (v := v) (seen := seen) (over := 0) (done := false) HA.out.2.1); have z261 := HST1.out.celAt (Ws.four_old (Z := #[]) (v := v) (seen := seen) (over := 0) (done := false) HA.out.2.2.1); have z264 := HST1.out.celAt (Ws.four_old (Z := #[]) (v := v) (seen := seen) (over := 0) (done := false) HA.out.2.2.2.2.1); have z265 := HST1.out.celAt (Ws.four_old (Z := #[]) (v := v) (seen := seen) (over := 0) (done := false) HA.out.2.2.2.2.2); have f266 := HST1.out.celFree 266; have g266 := HST1.out.celAt (Ws.four_new (A := A) (Z := #[]) (v := v) (seen := seen) (over := 0) (done := false) HSZ.out).1; have f267 := HST1.out.celFree 267; have g267 := HST1.out.celAt (Ws.four_new (A := A) (Z := #[]) (v := v) (seen := seen) (over := 0) (done := false) HSZ.out).2.1; have f268 := HST1.out.celFree 268; have g268 := HST1.out.celAt (Ws.four_new (A := A) (Z := #[]) (v := v) (seen := seen) (over := 0) (done := false) HSZ.out).2.2.1; have f269 := HST1.out.celFree 269; have g269 := HST1.out.celAt (Ws.four_new (A := A) (Z := #[]) (v := v) (seen := seen) (over := 0) (done := false) HSZ.out).2.2.2; simp only [Nat.reduceAdd] at g266 g267 g268 g269; clear hr)
  refine hK.out _ _ ?_ (fun hHeld => ?_)
  · (try dsimp only); (first | exact ⟨y259, y260, y261, y264, y265⟩ | exact ⟨z259, z260, z261, z264, z265⟩ | exact ⟨x259, x260, x261, x264, x265⟩)
  clear hK K
  try simp only [List.getElem_toArray, List.getElem_cons_zero, List.getElem_cons_succ, Act.put, List.setIfInBounds_toArray, List.set_cons_zero, List.set_cons_succ]
  refine wpAnyH_take (i := 17) (v := ?_) rfl (by kernel_rfl) (by kernel_rfl) (by kernel_rfl) (fun _ _ _ h => h) (Or.inl ⟨by rfl, ?_⟩) (by assumption) ?_
  rotate_left; focus (intro w hSw; (try dsimp only at hSw); go_simp; try (with_reducible rfl); done)
  try simp only [List.getElem_toArray, List.getElem_cons_zero, List.getElem_cons_succ, Act.put, List.setIfInBounds_toArray, List.set_cons_zero, List.set_cons_succ]
  refine wpAnyH_take (i := 18) (v := ?_) rfl (by kernel_rfl) (by kernel_rfl) (by kernel_rfl) (fun _ _ _ h => h) (Or.inl ⟨by rfl, ?_⟩) (by assumption) ?_
  rotate_left; focus (intro w hSw; (try dsimp only at hSw); go_simp; try (with_reducible rfl); done)
  try simp only [List.getElem_toArray, List.getElem_cons_zero, List.getElem_cons_succ, Act.put, List.setIfInBounds_toArray, List.set_cons_zero, List.set_cons_succ]
  refine wpAnyH_take (i := 19) (v := ?_) rfl (by kernel_rfl) (by kernel_rfl) (by kernel_rfl) (fun _ _ _ h => h) (Or.inl ⟨by rfl, ?_⟩) (by assumption) ?_
  rotate_left; focus (intro w hSw; (try dsimp only at hSw); go_simp; try (with_reducible rfl); done)
  try simp only [List.getElem_toArray, List.getElem_cons_zero, List.getElem_cons_succ, Act.put, List.setIfInBounds_toArray, List.set_cons_zero, List.set_cons_succ]
  refine wpAnyH_take (i := 20) (v := ?_) rfl (by kernel_rfl) (by kernel_rfl) (by kernel_rfl) (fun _ _ _ h => h) (Or.inl ⟨by rfl, ?_⟩) (by assumption) ?_
  rotate_left; focus (intro w hSw; (try dsimp only at hSw); go_simp; try (with_reducible rfl); done)
  try simp only [List.getElem_toArray, List.getElem_cons_zero, List.getElem_cons_succ, Act.put, List.setIfInBounds_toArray, List.set_cons_zero, List.set_cons_succ]
  refine wpAnyH_take (i := 21) (v := ?_) rfl (by kernel_rfl) (by kernel_rfl) (by kernel_rfl) (fun _ _ _ h => h) (Or.inl ⟨by rfl, ?_⟩) (by assumption) ?_
  rotate_left; focus (intro w hSw; (try dsimp only at hSw); go_simp; try (with_reducible rfl); done)
  try simp only [List.getElem_toArray, List.getElem_cons_zero, List.getElem_cons_succ, Act.put, List.setIfInBounds_toArray, List.set_cons_zero, List.set_cons_succ]
  refine wpAnyH_take (i := 22) (v := ?_) rfl (by kernel_rfl) (by kernel_rfl) (by kernel_rfl) (fun _ _ _ h => h) (Or.inl ⟨by rfl, ?_⟩) (by assumption) ?_
  rotate_left; focus (intro w hSw; (try dsimp only at hSw); go_simp; try (with_reducible rfl); done)
  try simp only [List.getElem_toArray, List.getElem_cons_zero, List.getElem_cons_succ, Act.put, List.setIfInBounds_toArray, List.set_cons_zero, List.set_cons_succ]
  refine wpAnyH_ready (rs := [23]) (by kernel_rfl) (by simp) ?_
  refine AllReadyH.cons rfl (fun K hK => ?_) AllReadyH.nil
  (go_simp; have HST2 := Lib.hid (Ws.set4 HSZ.out HST1.out (.slice av2 nv2 cv2) seen2 over2 done2); simp only [Nat.reduceAdd] at HST2; have x259 := HST2.out.celAt (Ws.four_old (Z := #[]) (v := .slice av2 nv2 cv2) (seen := seen2) (over := over2) (done := done2) HA.out.1); have x260 := HST2.out.celAt (Ws.four_old (Z := #[]) (v := .slice av2 nv2 cv2) (seen := seen2) (over := over2) (done := done2) HA.out.2.1); have x261 := HST2.out.celAt (Ws.four_old (Z := #[]) (v := .slice av2 nv2 cv2) (seen := seen2) (over := over2) (done := done2) HA.out.2.2.1); have x264 := HST2.out.celAt (Ws.four_old (Z := #[]) (v := .slice av2 nv2 cv2) (seen := seen2) (over := over2) (done := done2) HA.out.2.2.2.2.1); have x265 := HST2.out.celAt (Ws.four_old (Z := #[]) (v := .slice av2 nv2 cv2) (seen := seen2) (over := over2) (done := done2) HA.out.2.2.2.2.2); skip)
  refine hK.out _ _ ?_ (fun hHeld => ?_)
  · (try dsimp only); (first | exact ⟨y259, y260, y261, y264, y265⟩ | exact ⟨z259, z260, z261, z264, z265⟩ | exact ⟨x259, x260, x261, x264, x265⟩)
  clear hK K
  try simp only [List.getElem_toArray, List.getElem_cons_zero, List.getElem_cons_succ, Act.put, List.setIfInBounds_toArray, List.set_cons_zero, List.set_cons_succ]
  refine wpAnyH_take (i := 24) (v := ?_) rfl (by kernel_rfl) (by kernel_rfl) (by kernel_rfl) (fun _ _ _ h => h) (Or.inl ⟨by rfl, ?_⟩) (by assumption) ?_
  rotate_left; focus (intro w hSw; (try dsimp only at hSw); go_simp; try (with_reducible rfl); done)
  try simp only [List.getElem_toArray, List.getElem_cons_zero, List.getElem_cons_succ, Act.put, List.setIfInBounds_toArray, List.set_cons_zero, List.set_cons_succ]
  refine wpAnyH_take (i := 25) (v := ?_) rfl (by kernel_rfl) (by kernel_rfl) (by kernel_rfl) (fun _ _ _ h => h) (Or.inl ⟨by rfl, ?_⟩) (by assumption) ?_
  rotate_left; focus (intro w hSw; (try dsimp only at hSw); go_simp; try (with_reducible rfl); done)
  try simp only [List.getElem_toArray, List.getElem_cons_zero, List.getElem_cons_succ, Act.put, List.setIfInBounds_toArray, List.set_cons_zero, List.set_cons_succ]
  refine wpAnyH_done (by kernel_rfl) ?_ _
  go_wp2
  go_ret2
  exact ⟨ve, _, rfl, (fun h0 => by obtain ⟨h1, h2⟩ := HZ.out h0; rw [h1, h2 (by trivial)]; exact ⟨_, rfl⟩), (HST2.out.pair)⟩

set_option maxRecDepth 100000 in
set_option maxHeartbeats 4000000 in
theorem wsSEnd (wb : World) (A : Array Value) (m : Mk.Md) (v0 : Value) (Pc : Array Value) (vn vt vp vr va vg : Value) (hm : MadeAt (fun b => b < wb.heap.size) wb A m v0 Pc vn vt vp vr va vg) (he : Tb.all m.2.2.1.1 m.2.2.1.2.1 m.2.2.1.2.2 m.2.2.2.2.2.1 m.2.2.2.2.2.2 = 0) (tt : Nat) (htt : (tt : Int) = m.2.2.1.1) (g : Nat) :
    Ws.EndBy (Ws.stacker m.2.2.1.2.2 m.2.2.2.2.2.1 m.2.2.2.2.2.2 tt) (Ws.okS m.2.2.2.2.2.1.length) (Ws.InS g 234 A #[]) wb (fun w Q => Calls Try.prog 221 #[.pointer (some ⟨g, 0, none⟩)] w Q) := by
  intro w0 w μ j s X hbw hw0 hin hok hj hst
  obtain ⟨v, rfl⟩ := hin
  replace hst := hst.unpair
  obtain ⟨a0, a259, a260, a261, a262, a263, a264, a265⟩ := hm.arr
  have hz := Gr.err_zero (Bd.tb_zero he).1
  have hcc : (tt : Int) ≤ m.2.2.1.1 := by omega
  have hm2 := (Bd.tb_zero he).2.1
  have HC : Hid (∀ W, St w0 W (aCel g 234 (Ws.four A #[] v s.2 0 false) :: aOwn 3 1 v (s.1.map (Value.int .i64)) :: μ) → Below wb.heap.size wb W → Calls Try.prog 223 #[.agg #[.int .i64 m.2.2.1.1, .int .i64 m.2.2.1.2.1, vp], .agg #[va, vg], .agg #[v, .int .i64 s.2, .int .i64 0, .bool false]] W (Bd.Ret (Bd.fin true (Bd.go m.2.2.1.2.2 m.2.2.2.2.2.1 m.2.2.2.2.2.2 s.2 tt 2000 s.1 []) s.2) W)) := Lib.hid (fun W hW hbW => by
    exact bdEnd_ok m.2.2.1.1 m.2.2.1.2.1 s.2 0 tt false vp va vg v m.2.2.1.2.2 m.2.2.2.2.2.1 m.2.2.2.2.2.2 s.1 W (fun b => b < W.heap.size) (fun b h => h) (Enc.mono _ hm.prods (fun b hb => Nat.lt_of_lt_of_le hb hbW.size) (fun b hb => hbW.block b hb)) (Enc.mono _ hm.acts (fun b hb => Nat.lt_of_lt_of_le hb hbW.size) (fun b hb => hbW.block b hb)) (Enc.mono _ hm.gts (fun b hb => Nat.lt_of_lt_of_le hb hbW.size) (fun b hb => hbW.block b hb)) (Ws.encS (by omega) hok hW 1 rfl) (by omega) (by rw [he]; exact Ws.okS_chk hok hj hcc))
  have HZ := Lib.hid (Ws.finS_zero (last := true) (x := Bd.go m.2.2.1.2.2 m.2.2.2.2.2.1 m.2.2.2.2.2.2 s.2 tt 2000 s.1 []) (seen := s.2))
  have hsz := hm.size
  have HSZ := Lib.hid hsz
  have y259 := hst.celAt (Ws.four_old (Z := #[]) (v := v) (seen := s.2) (over := 0) (done := false) a259)
  have y260 := hst.celAt (Ws.four_old (Z := #[]) (v := v) (seen := s.2) (over := 0) (done := false) a260)
  have y261 := hst.celAt (Ws.four_old (Z := #[]) (v := v) (seen := s.2) (over := 0) (done := false) a261)
  have y264 := hst.celAt (Ws.four_old (Z := #[]) (v := v) (seen := s.2) (over := 0) (done := false) a264)
  have y265 := hst.celAt (Ws.four_old (Z := #[]) (v := v) (seen := s.2) (over := 0) (done := false) a265)
  obtain ⟨b0, b1, b2, b3⟩ := Ws.four_new (A := A) (Z := #[]) (v := v) (seen := s.2) (over := 0) (done := false) hsz
  have y266 := hst.celAt b0; have y267 := hst.celAt b1; have y268 := hst.celAt b2; have y269 := hst.celAt b3
  simp only [Nat.reduceAdd] at y266 y267 y268 y269
  have HST := Lib.hid hst
  have HA := Lib.hid (And.intro a259 (And.intro a260 (And.intro a261 (And.intro a263 (And.intro a264 a265)))))
  have HBW := Lib.hid hbw
  simp only [Ws.stacker]
  generalize (Bd.fin true (Bd.go m.2.2.1.2.2 m.2.2.2.2.2.1 m.2.2.2.2.2.2 s.2 tt 2000 s.1 []) s.2) = r at *
  obtain ⟨e, st2, seen2, over2, done2, out⟩ := r
  simp only at HC HZ ⊢
  generalize m.2.2.1.1 = t at *
  generalize m.2.2.1.2.1 = n at *
  generalize hseen : s.2 = seen at *
  generalize hst1 : s.1.map (Value.int .i64) = s1 at *
  clear hst hm he hok hz hcc hsz a0 a259 a260 a261 a262 a263 a264 a265 b0 b1 b2 b3 hbw hw0 htt hj hseen hst1  hm2
  go_enter Try.func221, Try.ntmps221
  go_wp2_with (fail)
  refine wp_region_held_drew (S := (fun w' => w'.cell? ⟨g, 259, none⟩ = some (.int .i64 t) ∧ w'.cell? ⟨g, 260, none⟩ = some (.int .i64 n) ∧ w'.cell? ⟨g, 261, none⟩ = some vp ∧ w'.cell? ⟨g, 264, none⟩ = some va ∧ w'.cell? ⟨g, 265, none⟩ = some vg)) (by kernel_rfl) ?_ (fun hHeld => ?_)
  · (try dsimp only); (first | exact ⟨y259, y260, y261, y264, y265⟩ | exact ⟨z259, z260, z261, z264, z265⟩ | exact ⟨x259, x260, x261, x264, x265⟩)

  refine wpAnyH_take (i := 0) (v := ?_) rfl (by kernel_rfl) (by kernel_rfl) (by kernel_rfl) (fun _ _ _ h => h) (Or.inl ⟨by rfl, ?_⟩) (by assumption) ?_
  rotate_left; focus (intro w hSw; (try dsimp only at hSw); go_simp; try (with_reducible rfl); done)
  try simp only [List.getElem_toArray, List.getElem_cons_zero, List.getElem_cons_succ, Act.put, List.setIfInBounds_toArray, List.set_cons_zero, List.set_cons_succ]
  refine wpAnyH_take (i := 1) (v := ?_) rfl (by kernel_rfl) (by kernel_rfl) (by kernel_rfl) (fun _ _ _ h => h) (Or.inl ⟨by rfl, ?_⟩) (by assumption) ?_
  rotate_left; focus (intro w hSw; (try dsimp only at hSw); go_simp; try (with_reducible rfl); done)
  try simp only [List.getElem_toArray, List.getElem_cons_zero, List.getElem_cons_succ, Act.put, List.setIfInBounds_toArray, List.set_cons_zero, List.set_cons_succ]
  refine wpAnyH_take (i := 2) (v := ?_) rfl (by kernel_rfl) (by kernel_rfl) (by kernel_rfl) (fun _ _ _ h => h) (Or.inl ⟨by rfl, ?_⟩) (by assumption) ?_
  rotate_left; focus (intro w hSw; (try dsimp only at hSw); go_simp; try (with_reducible rfl); done)
  try simp only [List.getElem_toArray, List.getElem_cons_zero, List.getElem_cons_succ, Act.put, List.setIfInBounds_toArray, List.set_cons_zero, List.set_cons_succ]
  refine wpAnyH_take (i := 3) (v := ?_) rfl (by kernel_rfl) (by kernel_rfl) (by kernel_rfl) (fun _ _ _ h => h) (Or.inl ⟨by rfl, ?_⟩) (by assumption) ?_
  rotate_left; focus (intro w hSw; (try dsimp only at hSw); go_simp; try (with_reducible rfl); done)
  try simp only [List.getElem_toArray, List.getElem_cons_zero, List.getElem_cons_succ, Act.put, List.setIfInBounds_toArray, List.set_cons_zero, List.set_cons_succ]
  refine wpAnyH_take (i := 4) (v := ?_) rfl (by kernel_rfl) (by kernel_rfl) (by kernel_rfl) (fun _ _ _ h => h) (Or.inl ⟨by rfl, ?_⟩) (by assumption) ?_
  rotate_left; focus (intro w hSw; (try dsimp only at hSw); go_simp; try (with_reducible rfl); done)
  try simp only [List.getElem_toArray, List.getElem_cons_zero, List.getElem_cons_succ, Act.put, List.setIfInBounds_toArray, List.set_cons_zero, List.set_cons_succ]
  refine wpAnyH_take (i := 5) (v := ?_) rfl (by kernel_rfl) (by kernel_rfl) (by kernel_rfl) (fun _ _ _ h => h) (Or.inl ⟨by rfl, ?_⟩) (by assumption) ?_
  rotate_left; focus (intro w hSw; (try dsimp only at hSw); go_simp; try (with_reducible rfl); done)
  try simp only [List.getElem_toArray, List.getElem_cons_zero, List.getElem_cons_succ, Act.put, List.setIfInBounds_toArray, List.set_cons_zero, List.set_cons_succ]
  refine wpAnyH_take (i := 6) (v := ?_) rfl (by kernel_rfl) (by kernel_rfl) (by kernel_rfl) (fun _ _ _ h => h) (Or.inl ⟨by rfl, ?_⟩) (by assumption) ?_
  rotate_left; focus (intro w hSw; (try dsimp only at hSw); go_simp; try (with_reducible rfl); done)
  try simp only [List.getElem_toArray, List.getElem_cons_zero, List.getElem_cons_succ, Act.put, List.setIfInBounds_toArray, List.set_cons_zero, List.set_cons_succ]
  refine wpAnyH_take (i := 7) (v := ?_) rfl (by kernel_rfl) (by kernel_rfl) (by kernel_rfl) (fun _ _ _ h => h) (Or.inl ⟨by rfl, ?_⟩) (by assumption) ?_
  rotate_left; focus (intro w hSw; (try dsimp only at hSw); go_simp; try (with_reducible rfl); done)
  try simp only [List.getElem_toArray, List.getElem_cons_zero, List.getElem_cons_succ, Act.put, List.setIfInBounds_toArray, List.set_cons_zero, List.set_cons_succ]
  refine wpAnyH_take (i := 8) (v := ?_) rfl (by kernel_rfl) (by kernel_rfl) (by kernel_rfl) (fun _ _ _ h => h) (Or.inl ⟨by rfl, ?_⟩) (by assumption) ?_
  rotate_left; focus (intro w hSw; (try dsimp only at hSw); go_simp; try (with_reducible rfl); done)
  try simp only [List.getElem_toArray, List.getElem_cons_zero, List.getElem_cons_succ, Act.put, List.setIfInBounds_toArray, List.set_cons_zero, List.set_cons_succ]
  refine wpAnyH_take (i := 9) (v := ?_) rfl (by kernel_rfl) (by kernel_rfl) (by kernel_rfl) (fun _ _ _ h => h) (Or.inl ⟨by rfl, ?_⟩) (by assumption) ?_
  rotate_left; focus (intro w hSw; (try dsimp only at hSw); go_simp; try (with_reducible rfl); done)
  try simp only [List.getElem_toArray, List.getElem_cons_zero, List.getElem_cons_succ, Act.put, List.setIfInBounds_toArray, List.set_cons_zero, List.set_cons_succ]
  refine wpAnyH_take (i := 10) (v := ?_) rfl (by kernel_rfl) (by kernel_rfl) (by kernel_rfl) (fun _ _ _ h => h) (Or.inl ⟨by rfl, ?_⟩) (by assumption) ?_
  rotate_left; focus (intro w hSw; (try dsimp only at hSw); go_simp; try (with_reducible rfl); done)
  try simp only [List.getElem_toArray, List.getElem_cons_zero, List.getElem_cons_succ, Act.put, List.setIfInBounds_toArray, List.set_cons_zero, List.set_cons_succ]
  refine wpAnyH_take (i := 11) (v := ?_) rfl (by kernel_rfl) (by kernel_rfl) (by kernel_rfl) (fun _ _ _ h => h) (Or.inl ⟨by rfl, ?_⟩) (by assumption) ?_
  rotate_left; focus (intro w hSw; (try dsimp only at hSw); go_simp; try (with_reducible rfl); done)
  try simp only [List.getElem_toArray, List.getElem_cons_zero, List.getElem_cons_succ, Act.put, List.setIfInBounds_toArray, List.set_cons_zero, List.set_cons_succ]
  refine wpAnyH_take (i := 12) (v := ?_) rfl (by kernel_rfl) (by kernel_rfl) (by kernel_rfl) (fun _ _ _ h => h) (Or.inl ⟨by rfl, ?_⟩) (by assumption) ?_
  rotate_left; focus (intro w hSw; (try dsimp only at hSw); go_simp; try (with_reducible rfl); done)
  try simp only [List.getElem_toArray, List.getElem_cons_zero, List.getElem_cons_succ, Act.put, List.setIfInBounds_toArray, List.set_cons_zero, List.set_cons_succ]
  refine wpAnyH_take (i := 13) (v := ?_) rfl (by kernel_rfl) (by kernel_rfl) (by kernel_rfl) (fun _ _ _ h => h) (Or.inl ⟨by rfl, ?_⟩) (by assumption) ?_
  rotate_left; focus (intro w hSw; (try dsimp only at hSw); go_simp; try (with_reducible rfl); done)
  try simp only [List.getElem_toArray, List.getElem_cons_zero, List.getElem_cons_succ, Act.put, List.setIfInBounds_toArray, List.set_cons_zero, List.set_cons_succ]
  refine wpAnyH_ready (rs := [14]) (by kernel_rfl) (by simp) ?_
  refine AllReadyH.cons rfl (fun K hK => ?_) AllReadyH.nil
  go_simp
  refine hK.out _ _ ?_ (fun hHeld => ?_)
  · (try dsimp only); (first | exact ⟨y259, y260, y261, y264, y265⟩ | exact ⟨z259, z260, z261, z264, z265⟩ | exact ⟨x259, x260, x261, x264, x265⟩)
  clear hK K
  try simp only [List.getElem_toArray, List.getElem_cons_zero, List.getElem_cons_succ, Act.put, List.setIfInBounds_toArray, List.set_cons_zero, List.set_cons_succ]
  refine wpAnyH_ready (rs := [15]) (by kernel_rfl) (by simp) ?_
  refine AllReadyH.cons rfl (fun K hK => ?_) AllReadyH.nil
  go_simp
  (go_at_call 223; refine (HC.out _ HST.out.drew HBW.out.drew).mono ?_; rintro e1 w1 ⟨vs2, ve, rfl, hr⟩; simp only at hr; obtain ⟨av2, nv2, cv2, rfl⟩ := Ws.shows (hr.ownAt 0 rfl); have HST1 := Lib.hid (show St w0 w1 (aCel g 234 (Ws.four A #[] v seen 0 false) :: aOwn 3 1 (.slice av2 nv2 cv2) (st2.map (Value.int .i64)) :: aOwn 76 2 ve (out.map pairV) :: μ) from (HST.out.drew.joined hr).pick (ρ := aCel g 234 (Ws.four A #[] v seen 0 false) :: aOwn 3 1 (.slice av2 nv2 cv2) (st2.map (Value.int .i64)) :: aOwn 76 2 ve (out.map pairV) :: μ) [2, 0, 1] 4 rfl rfl); have z259 := HST1.out.celAt (Ws.four_old (Z := #[]) (v := v) (seen := seen) (over := 0) (done := false) HA.out.1); have z260 := HST1.out.celAt (Ws.four_old (Z := #[]) (v := v) (seen := seen) (over := 0) (done := false) HA.out.2.1); have z261 := HST1.out.celAt (Ws.four_old (Z := #[]) (v := v) (seen := seen) (over := 0) (done := false) HA.out.2.2.1); have z264 := HST1.out.celAt (Ws.four_old (Z := #[]) (v := v) (seen := seen) (over := 0) (done := false) HA.out.2.2.2.2.1); have z265 := HST1.out.celAt (Ws.four_old (Z := #[]) (v := v) (seen := seen) (over := 0) (done := false) HA.out.2.2.2.2.2); have f266 := HST1.out.celFree 266; have g266 := HST1.out.celAt (Ws.four_new (A := A) (Z := #[]) (v := v) (seen := seen) (over := 0) (done := false) HSZ.out).1; have f267 := HST1.out.celFree 267; have g267 := HST1.out.celAt (Ws.four_new (A := A) (Z := #[]) (v := v) (seen := seen) (over := 0) (done := false) HSZ.out).2.1; have f268 := HST1.out.celFree 268; have g268 := HST1.out.celAt (Ws.four_new (A := A) (Z := #[]) (v := v) (seen := seen) (over := 0) (done := false) HSZ.out).2.2.1; have f269 := HST1.out.celFree 269; have g269 := HST1.out.celAt (Ws.four_new (A := A) (Z := #[]) (v := v) (seen := seen) (over := 0) (done := false) HSZ.out).2.2.2; simp only [Nat.reduceAdd] at g266 g267 g268 g269; clear hr)
  refine hK.out _ _ ?_ (fun hHeld => ?_)
  · (try dsimp only); (first | exact ⟨y259, y260, y261, y264, y265⟩ | exact ⟨z259, z260, z261, z264, z265⟩ | exact ⟨x259, x260, x261, x264, x265⟩)
  clear hK K
  try simp only [List.getElem_toArray, List.getElem_cons_zero, List.getElem_cons_succ, Act.put, List.setIfInBounds_toArray, List.set_cons_zero, List.set_cons_succ]
  refine wpAnyH_take (i := 16) (v := ?_) rfl (by kernel_rfl) (by kernel_rfl) (by kernel_rfl) (fun _ _ _ h => h) (Or.inl ⟨by rfl, ?_⟩) (by assumption) ?_
  rotate_left; focus (intro w hSw; (try dsimp only at hSw); go_simp; try (with_reducible rfl); done)
  try simp only [List.getElem_toArray, List.getElem_cons_zero, List.getElem_cons_succ, Act.put, List.setIfInBounds_toArray, List.set_cons_zero, List.set_cons_succ]
  refine wpAnyH_take (i := 17) (v := ?_) rfl (by kernel_rfl) (by kernel_rfl) (by kernel_rfl) (fun _ _ _ h => h) (Or.inl ⟨by rfl, ?_⟩) (by assumption) ?_
  rotate_left; focus (intro w hSw; (try dsimp only at hSw); go_simp; try (with_reducible rfl); done)
  try simp only [List.getElem_toArray, List.getElem_cons_zero, List.getElem_cons_succ, Act.put, List.setIfInBounds_toArray, List.set_cons_zero, List.set_cons_succ]
  refine wpAnyH_take (i := 18) (v := ?_) rfl (by kernel_rfl) (by kernel_rfl) (by kernel_rfl) (fun _ _ _ h => h) (Or.inl ⟨by rfl, ?_⟩) (by assumption) ?_
  rotate_left; focus (intro w hSw; (try dsimp only at hSw); go_simp; try (with_reducible rfl); done)
  try simp only [List.getElem_toArray, List.getElem_cons_zero, List.getElem_cons_succ, Act.put, List.setIfInBounds_toArray, List.set_cons_zero, List.set_cons_succ]
  refine wpAnyH_take (i := 19) (v := ?_) rfl (by kernel_rfl) (by kernel_rfl) (by kernel_rfl) (fun _ _ _ h => h) (Or.inl ⟨by rfl, ?_⟩) (by assumption) ?_
  rotate_left; focus (intro w hSw; (try dsimp only at hSw); go_simp; try (with_reducible rfl); done)
  try simp only [List.getElem_toArray, List.getElem_cons_zero, List.getElem_cons_succ, Act.put, List.setIfInBounds_toArray, List.set_cons_zero, List.set_cons_succ]
  refine wpAnyH_take (i := 20) (v := ?_) rfl (by kernel_rfl) (by kernel_rfl) (by kernel_rfl) (fun _ _ _ h => h) (Or.inl ⟨by rfl, ?_⟩) (by assumption) ?_
  rotate_left; focus (intro w hSw; (try dsimp only at hSw); go_simp; try (with_reducible rfl); done)
  try simp only [List.getElem_toArray, List.getElem_cons_zero, List.getElem_cons_succ, Act.put, List.setIfInBounds_toArray, List.set_cons_zero, List.set_cons_succ]
  refine wpAnyH_take (i := 21) (v := ?_) rfl (by kernel_rfl) (by kernel_rfl) (by kernel_rfl) (fun _ _ _ h => h) (Or.inl ⟨by rfl, ?_⟩) (by assumption) ?_
  rotate_left; focus (intro w hSw; (try dsimp only at hSw); go_simp; try (with_reducible rfl); done)
  try simp only [List.getElem_toArray, List.getElem_cons_zero, List.getElem_cons_succ, Act.put, List.setIfInBounds_toArray, List.set_cons_zero, List.set_cons_succ]
  refine wpAnyH_ready (rs := [22]) (by kernel_rfl) (by simp) ?_
  refine AllReadyH.cons rfl (fun K hK => ?_) AllReadyH.nil
  (go_simp; have HST2 := Lib.hid (Ws.set4 HSZ.out HST1.out (.slice av2 nv2 cv2) seen2 over2 done2); simp only [Nat.reduceAdd] at HST2; have x259 := HST2.out.celAt (Ws.four_old (Z := #[]) (v := .slice av2 nv2 cv2) (seen := seen2) (over := over2) (done := done2) HA.out.1); have x260 := HST2.out.celAt (Ws.four_old (Z := #[]) (v := .slice av2 nv2 cv2) (seen := seen2) (over := over2) (done := done2) HA.out.2.1); have x261 := HST2.out.celAt (Ws.four_old (Z := #[]) (v := .slice av2 nv2 cv2) (seen := seen2) (over := over2) (done := done2) HA.out.2.2.1); have x264 := HST2.out.celAt (Ws.four_old (Z := #[]) (v := .slice av2 nv2 cv2) (seen := seen2) (over := over2) (done := done2) HA.out.2.2.2.2.1); have x265 := HST2.out.celAt (Ws.four_old (Z := #[]) (v := .slice av2 nv2 cv2) (seen := seen2) (over := over2) (done := done2) HA.out.2.2.2.2.2); skip)
  refine hK.out _ _ ?_ (fun hHeld => ?_)
  · (try dsimp only); (first | exact ⟨y259, y260, y261, y264, y265⟩ | exact ⟨z259, z260, z261, z264, z265⟩ | exact ⟨x259, x260, x261, x264, x265⟩)
  clear hK K
  try simp only [List.getElem_toArray, List.getElem_cons_zero, List.getElem_cons_succ, Act.put, List.setIfInBounds_toArray, List.set_cons_zero, List.set_cons_succ]
  refine wpAnyH_take (i := 23) (v := ?_) rfl (by kernel_rfl) (by kernel_rfl) (by kernel_rfl) (fun _ _ _ h => h) (Or.inl ⟨by rfl, ?_⟩) (by assumption) ?_
  rotate_left; focus (intro w hSw; (try dsimp only at hSw); go_simp; try (with_reducible rfl); done)
  try simp only [List.getElem_toArray, List.getElem_cons_zero, List.getElem_cons_succ, Act.put, List.setIfInBounds_toArray, List.set_cons_zero, List.set_cons_succ]
  refine wpAnyH_take (i := 24) (v := ?_) rfl (by kernel_rfl) (by kernel_rfl) (by kernel_rfl) (fun _ _ _ h => h) (Or.inl ⟨by rfl, ?_⟩) (by assumption) ?_
  rotate_left; focus (intro w hSw; (try dsimp only at hSw); go_simp; try (with_reducible rfl); done)
  try simp only [List.getElem_toArray, List.getElem_cons_zero, List.getElem_cons_succ, Act.put, List.setIfInBounds_toArray, List.set_cons_zero, List.set_cons_succ]
  refine wpAnyH_done (by kernel_rfl) ?_ _
  go_wp2
  go_ret2
  exact ⟨ve, _, rfl, (HST2.out.pair)⟩
end Go.Proofs.Ytahoapgmiecphaa

/-
  begun of package whole, Begun of the reference: a parser's block.
-/
namespace Go.Proofs.Ytahoapgmiecphaa
set_option linter.unusedVariables false
set_option linter.unusedSimpArgs false
open Go.ChangeShapes Go.WideShapes Go.ChangeAt Go.RowKit

theorem wp_built {P : Program} {o : Oper} {a : Act} {w : World} {K : Act → World → Prop} {Q : Exit → Act → World → Prop} {t : TypeId} {parts : Array (Nat × Operand)} (ho : o.op = .build t parts) {cells : Array Value}
    (hb : P.built t (parts.map fun (i, x) => (i, a.eval x)).toList = some cells) (h : K (a.put o.dst (.agg cells)) w) : o.wp P a w K Q :=
  wp_build t parts ho (by rw [hb]; rfl) (by rw [hb]; exact h)

theorem wpList_built {P : Program} {ops : Array Oper} {rest : List Oper} {o : Oper} {a : Act} {w : World} {Q : Exit → Act → World → Prop} (hg : o.guard = none) {t : TypeId} {parts : Array (Nat × Operand)} (ho : o.op = .build t parts) {cells : Array Value}
    (hb : P.built t (parts.map fun (i, x) => (i, a.eval x)).toList = some cells) (h : wpList P ops Q rest (a.put o.dst (.agg cells)) w) : wpList P ops Q (o :: rest) a w :=
  wpList_build hg t parts ho (by rw [hb]; rfl) (by rw [hb]; exact h)

namespace Lay
theorem set_mid {α : Type} (a c : List α) (x y : α) (n : Nat) (h : a.length = n) : (a ++ y :: c).set n x = a ++ x :: c := by
  subst h
  induction a with
  | nil => rfl
  | cons z a ih => rw [List.cons_append, List.length_cons, List.set_cons_succ, ih]; rfl
/-- Values laid one behind another. -/
theorem lay_list (pre post : List Value) : ∀ (xs dn todo : List Value), todo.length = xs.length →
    (xs.zipIdx dn.length).foldl (fun (cs : Array Value) (p : Value × Nat) => cs.setIfInBounds (pre.length + p.2) p.1) (pre ++ (dn ++ (todo ++ post))).toArray = (pre ++ (dn ++ (xs ++ post))).toArray := by
  intro xs
  induction xs with
  | nil => intro dn todo h; rw [List.length_eq_zero_iff.1 h]; rfl
  | cons x r ih =>
    intro dn todo h
    cases todo with
    | nil => cases h
    | cons y todo =>
      rw [List.zipIdx_cons, List.foldl_cons]
      have h1 : ((pre ++ (dn ++ ((y :: todo) ++ post))).toArray.setIfInBounds (pre.length + dn.length) x) = (pre ++ ((dn ++ [x]) ++ (todo ++ post))).toArray := by
        rw [List.setIfInBounds_toArray, ← List.append_assoc, List.cons_append, set_mid (pre ++ dn) (todo ++ post) x y _ (by simp)]
        simp
      have h2 := ih (dn ++ [x]) todo (by simpa using h)
      rw [List.length_append, List.length_singleton] at h2
      simp only [h1, h2]
      simp
theorem lay_arr (pre todo post : List Value) (xs : Array Value) (h : todo.length = xs.size) :
    xs.zipIdx.foldl (fun (cs : Array Value) (p : Value × Nat) => cs.setIfInBounds (pre.length + p.2) p.1) (pre ++ (todo ++ post)).toArray = (pre ++ (xs.toList ++ post)).toArray := by
  have := lay_list pre post xs.toList [] todo (by simpa using h)
  rw [← Array.foldl_toList, Array.toList_zipIdx]
  exact this
theorem split3 {α : Type} (z : List α) (a b c : Nat) (h : z.length = a + b + c) : ∃ x y w, z = x ++ (y ++ w) ∧ x.length = a ∧ y.length = b ∧ w.length = c :=
  ⟨z.take a, (z.drop a).take b, (z.drop a).drop b, by rw [List.take_append_drop, List.take_append_drop], by simp; omega, by simp; omega, by simp; omega⟩
theorem fill_step (pl : Nat → Option (Nat × Nat)) (pre todo post : List Value) (i : Nat) (xs : Array Value) (off n : Nat) (rest : List (Nat × Value)) (hp : pl i = some (off, n)) (ho : pre.length = off) (hn : xs.size = n) (ht : todo.length = n) :
    Instr.fill pl (pre ++ (todo ++ post)).toArray ((i, .agg xs) :: rest) = Instr.fill pl (pre ++ (xs.toList ++ post)).toArray rest := by
  have c1 : (Value.agg xs).cells = xs := rfl
  have l1 := lay_arr pre todo post xs (by omega)
  rw [ho] at l1
  rw [Instr.fill, hp]
  simp only [c1]
  rw [if_neg (by simp; omega), l1]
/-- A struct of two, of three parts. -/
theorem fill2 (z A C : Array Value) (n1 n2 : Nat) (hz : z.size = n1 + n2) (hA : A.size = n1) (hC : C.size = n2) :
    Instr.fill (fun i => #[(0, n1), (n1, n2)][i]?) z [(0, .agg A), (1, .agg C)] = some (A.toList ++ C.toList).toArray := by
  obtain ⟨x, y, w, h, hx, hy, hw⟩ := split3 z.toList n1 n2 0 (by simpa using hz)
  obtain rfl := List.length_eq_zero_iff.1 hw
  have e0 : z = ([] ++ (x ++ y)).toArray := by rw [← z.toArray_toList, h]; simp
  rw [e0, fill_step _ [] x y 0 A 0 n1 _ rfl rfl hA hx, List.nil_append, show A.toList ++ y = A.toList ++ (y ++ []) by simp, fill_step _ A.toList y [] 1 C n1 n2 _ rfl (by simpa using hA) hC hy]
  simp [Instr.fill]
theorem fill3 (z A C D : Array Value) (n1 n2 n3 : Nat) (hz : z.size = n1 + n2 + n3) (hA : A.size = n1) (hC : C.size = n2) (hD : D.size = n3) :
    Instr.fill (fun i => #[(0, n1), (n1, n2), (n1 + n2, n3)][i]?) z [(0, .agg A), (1, .agg C), (2, .agg D)] = some (A.toList ++ (C.toList ++ D.toList)).toArray := by
  obtain ⟨x, y, w, h, hx, hy, hw⟩ := split3 z.toList n1 n2 n3 (by simpa using hz)
  have e0 : z = ([] ++ (x ++ (y ++ w))).toArray := by rw [← z.toArray_toList, h]; simp
  rw [e0, fill_step _ [] x (y ++ w) 0 A 0 n1 _ rfl rfl hA hx, List.nil_append, fill_step _ A.toList y w 1 C n1 n2 _ rfl (by simpa using hA) hC hy, ← List.append_assoc, show (A.toList ++ C.toList) ++ w = (A.toList ++ C.toList) ++ (w ++ []) by simp, fill_step _ (A.toList ++ C.toList) w [] 2 D (n1 + n2) n3 _ rfl (by simp; omega) hD hw]
  simp [Instr.fill]
end Lay

theorem built_climber (A : Array Value) (hA : A.size = 266) (v a b d : Value) : Try.prog.built 228 #[(0, Value.agg A), (1, .agg #[v, a, b, d])].toList = some (A.toList ++ [v, a, b, d]).toArray := by
  have h : Try.prog.built 228 #[(0, Value.agg A), (1, Value.agg #[v, a, b, d])].toList = Instr.fill (fun i => #[(0, 266), (266, 4)][i]?) Try.zeroCells228 [(0, .agg A), (1, .agg #[v, a, b, d])] := by kernel_rfl
  rw [h]
  exact Lay.fill2 _ A #[v, a, b, d] 266 4 (by kernel_rfl) hA rfl
theorem built_stacker (A : Array Value) (hA : A.size = 266) (v a b d : Value) : Try.prog.built 234 #[(0, Value.agg A), (1, .agg #[v, a, b, d])].toList = some (A.toList ++ [v, a, b, d]).toArray := by
  have h : Try.prog.built 234 #[(0, Value.agg A), (1, Value.agg #[v, a, b, d])].toList = Instr.fill (fun i => #[(0, 266), (266, 4)][i]?) Try.zeroCells234 [(0, .agg A), (1, .agg #[v, a, b, d])] := by kernel_rfl
  rw [h]
  exact Lay.fill2 _ A #[v, a, b, d] 266 4 (by kernel_rfl) hA rfl
theorem built_parser (A : Array Value) (hA : A.size = 266) (v a b d v2 a2 b2 d2 : Value) : Try.prog.built 240 #[(0, Value.agg A), (1, .agg #[v, a, b, d]), (2, .agg #[v2, a2, b2, d2])].toList = some (A.toList ++ ([v, a, b, d] ++ [v2, a2, b2, d2])).toArray := by
  have h : Try.prog.built 240 #[(0, Value.agg A), (1, Value.agg #[v, a, b, d]), (2, Value.agg #[v2, a2, b2, d2])].toList = Instr.fill (fun i => #[(0, 266), (266, 4), (266 + 4, 4)][i]?) Try.zeroCells240 [(0, .agg A), (1, .agg #[v, a, b, d]), (2, .agg #[v2, a2, b2, d2])] := by kernel_rfl
  rw [h]
  exact Lay.fill3 _ A #[v, a, b, d] #[v2, a2, b2, d2] 266 4 4 (by kernel_rfl) hA rfl rfl
theorem rangeOfBox {w : World} {g : Nat} {cs : Array Value} {T : TypeId} {fr : Nat × Nat} (h : w.heap[g]? = some (.cells cs T fr)) : w.rangeAt g 0 cs.toList := by
  intro j v hv
  simp only [World.cell?, h, Nat.zero_add]
  simpa using hv

set_option maxRecDepth 100000 in
set_option maxHeartbeats 2000000 in
theorem wsBegunC (A : Array Value) (m : Mk.Md) (v0 : Value) (Pc : Array Value) (vn vt vp vr va vg : Value) (F : Nat → Prop) (wb w : World) (hm : MadeAt F wb A m v0 Pc vn vt vp vr va vg) (hmode : m.2.2.2.1 = 1) :
    Calls Try.prog 77 #[.agg A] w fun e w' => ∃ g X, e = .returned (.iface 222 (.pointer (some ⟨g, 0, none⟩))) ∧ Ws.InC g 228 A #[] ([(false, 0, 2, 0)], 0) X ∧ St w w' [X] := by
  have hst := (St.init w).alloc A 66
  obtain ⟨a0, a259, a260, a261, a262, a263, a264, a265⟩ := hm.arr
  have y262 := hst.celAt a262
  rw [hmode] at y262
  have hsz : (Try.prog.info? 66).map (fun x => x.size) = some A.toList.length := by rw [Array.length_toList, hm.size]; kernel_rfl
  have HS := Lib.hid hsz
  have HBT := fun v => built_climber A hm.size v (.int .i64 0) (.int .i64 0) (.bool false)
  replace HBT := Lib.hid HBT
  have HR := Lib.hid (rangeOfBox (hst.drew.heapAt 0 rfl))
  have HST := Lib.hid hst
  clear hst hm hmode hsz a0 a259 a260 a261 a262 a263 a264 a265
  go_enter Try.func77, Try.ntmps77
  go_wp2_with (fail)
  refine wp_region_held_drew (S := (fun w' => w'.rangeAt w.heap.size 0 A.toList)) (by kernel_rfl) ?_ (fun hHeld => ?_)
  · (try dsimp only); (first | exact HR.out | exact HR1.out | exact HR2.out)

  refine wpAnyH_take (i := 0) (v := _) rfl (by kernel_rfl) (by kernel_rfl) (by kernel_rfl) (fun _ _ _ h => h) (yieldsIf_load_mid (by rfl) 66 (.tmp 1) rfl w.heap.size 0 rfl A.toList _ (fun w' h => h) Try.underlying66 rfl HS.out) (by assumption) ?_
  try simp only [List.getElem_toArray, List.getElem_cons_zero, List.getElem_cons_succ, Act.put, List.setIfInBounds_toArray, List.set_cons_zero, List.set_cons_succ]
  refine wpAnyH_ready (rs := [1]) (by kernel_rfl) (by simp) ?_
  refine AllReadyH.cons rfl (fun K hK => ?_) AllReadyH.nil
  go_simp
  (go_at_call 127; refine (clBegin_any _).mono ?_; rintro e1 w1 ⟨v1, rfl, hr⟩; obtain ⟨av1, nv1, cv1, rfl⟩ := Ws.shows (hr.ownAt 0 rfl); have HST1 := Lib.hid (HST.out.drew.joined hr); have HR1 := Lib.hid (rangeOfBox ((HST1.out.heapAt 1 rfl))); have hbt := HBT.out (.slice av1 nv1 cv1); clear hr)
  refine hK.out _ _ ?_ (fun hHeld => ?_)
  · (try dsimp only); (first | exact HR.out | exact HR1.out | exact HR2.out)
  clear hK K
  try simp only [List.getElem_toArray, List.getElem_cons_zero, List.getElem_cons_succ, Act.put, List.setIfInBounds_toArray, List.set_cons_zero, List.set_cons_succ]
  refine wpAnyH_ready (rs := [2]) (by kernel_rfl) (by simp) ?_
  refine AllReadyH.cons rfl (fun K hK => ?_) AllReadyH.nil
  (refine wp_built rfl (by go_simp; rfl) ?_; clear hbt)
  refine hK.out _ _ ?_ (fun hHeld => ?_)
  · (try dsimp only); (first | exact HR.out | exact HR1.out | exact HR2.out)
  clear hK K
  try simp only [List.getElem_toArray, List.getElem_cons_zero, List.getElem_cons_succ, Act.put, List.setIfInBounds_toArray, List.set_cons_zero, List.set_cons_succ]
  refine wpAnyH_ready (rs := [3]) (by kernel_rfl) (by simp) ?_
  refine AllReadyH.cons rfl (fun K hK => ?_) AllReadyH.nil
  (have HST2 := Lib.hid (HST1.out.alloc (A.toList ++ [Value.slice av1 nv1 cv1, .int .i64 0, .int .i64 0, .bool false]).toArray 228); have HR2 := Lib.hid (rangeOfBox ((HST2.out.heapAt 2 rfl))); go_simp)
  refine hK.out _ _ ?_ (fun hHeld => ?_)
  · (try dsimp only); (first | exact HR.out | exact HR1.out | exact HR2.out)
  clear hK K
  try simp only [List.getElem_toArray, List.getElem_cons_zero, List.getElem_cons_succ, Act.put, List.setIfInBounds_toArray, List.set_cons_zero, List.set_cons_succ]
  refine wpAnyH_take (i := 4) (v := ?_) rfl (by kernel_rfl) (by kernel_rfl) (by kernel_rfl) (fun _ _ _ h => h) (Or.inl ⟨by rfl, ?_⟩) (by assumption) ?_
  rotate_left; focus (intro w hSw; (try dsimp only at hSw); go_simp; try (with_reducible rfl); done)
  try simp only [List.getElem_toArray, List.getElem_cons_zero, List.getElem_cons_succ, Act.put, List.setIfInBounds_toArray, List.set_cons_zero, List.set_cons_succ]
  refine wpAnyH_take (i := 5) (v := ?_) rfl (by kernel_rfl) (by kernel_rfl) (by kernel_rfl) (fun _ _ _ h => h) (Or.inl ⟨by rfl, ?_⟩) (by assumption) ?_
  rotate_left; focus (intro w hSw; (try dsimp only at hSw); go_simp; try (with_reducible rfl); done)
  try simp only [List.getElem_toArray, List.getElem_cons_zero, List.getElem_cons_succ, Act.put, List.setIfInBounds_toArray, List.set_cons_zero, List.set_cons_succ]
  refine wpAnyH_done (by kernel_rfl) ?_ _
  go_wp2
  go_ret
  exact ⟨_, _, rfl, ⟨_, rfl⟩, (HST2.out.pick (ρ := [aCel _ 228 (A.toList ++ [Value.slice av1 nv1 cv1, .int .i64 0, .int .i64 0, .bool false]).toArray, aOwn 238 4 (.slice av1 nv1 cv1) ([((false, 0, 2, 0) : Cl.T)].map todoV)]) [0, 1] 3 rfl rfl).pair⟩

set_option maxRecDepth 100000 in
set_option maxHeartbeats 2000000 in
theorem wsBegunS (A : Array Value) (m : Mk.Md) (v0 : Value) (Pc : Array Value) (vn vt vp vr va vg : Value) (F : Nat → Prop) (wb w : World) (hm : MadeAt F wb A m v0 Pc vn vt vp vr va vg) (hmode : m.2.2.2.1 = 2) :
    Calls Try.prog 77 #[.agg A] w fun e w' => ∃ g X, e = .returned (.iface 229 (.pointer (some ⟨g, 0, none⟩))) ∧ Ws.InS g 234 A #[] ([0], 0) X ∧ St w w' [X] := by
  have hst := (St.init w).alloc A 66
  obtain ⟨a0, a259, a260, a261, a262, a263, a264, a265⟩ := hm.arr
  have y262 := hst.celAt a262
  rw [hmode] at y262
  have hsz : (Try.prog.info? 66).map (fun x => x.size) = some A.toList.length := by rw [Array.length_toList, hm.size]; kernel_rfl
  have HS := Lib.hid hsz
  have HBT := fun v => built_stacker A hm.size v (.int .i64 0) (.int .i64 0) (.bool false)
  replace HBT := Lib.hid HBT
  have HR := Lib.hid (rangeOfBox (hst.drew.heapAt 0 rfl))
  have HST := Lib.hid hst
  clear hst hm hmode hsz a0 a259 a260 a261 a262 a263 a264 a265
  go_enter Try.func77, Try.ntmps77
  go_wp2_with (fail)
  refine wp_region_held_drew (S := (fun w' => w'.rangeAt w.heap.size 0 A.toList)) (by kernel_rfl) ?_ (fun hHeld => ?_)
  · (try dsimp only); (first | exact HR.out | exact HR1.out | exact HR2.out)

  refine wpAnyH_take (i := 0) (v := _) rfl (by kernel_rfl) (by kernel_rfl) (by kernel_rfl) (fun _ _ _ h => h) (yieldsIf_load_mid (by rfl) 66 (.tmp 1) rfl w.heap.size 0 rfl A.toList _ (fun w' h => h) Try.underlying66 rfl HS.out) (by assumption) ?_
  try simp only [List.getElem_toArray, List.getElem_cons_zero, List.getElem_cons_succ, Act.put, List.setIfInBounds_toArray, List.set_cons_zero, List.set_cons_succ]
  refine wpAnyH_ready (rs := [1]) (by kernel_rfl) (by simp) ?_
  refine AllReadyH.cons rfl (fun K hK => ?_) AllReadyH.nil
  go_simp
  (go_at_call 128; refine (bdBegin_any _).mono ?_; rintro e1 w1 ⟨v1, rfl, hr1, hr2⟩; have hr := (St.init _).pushOwn hr2 hr1; obtain ⟨av1, nv1, cv1, rfl⟩ := Ws.shows (hr.ownAt 0 rfl); have HST1 := Lib.hid (HST.out.drew.joined hr); have HR1 := Lib.hid (rangeOfBox ((HST1.out.heapAt 1 rfl))); have hbt := HBT.out (.slice av1 nv1 cv1); clear hr)
  refine hK.out _ _ ?_ (fun hHeld => ?_)
  · (try dsimp only); (first | exact HR.out | exact HR1.out | exact HR2.out)
  clear hK K
  try simp only [List.getElem_toArray, List.getElem_cons_zero, List.getElem_cons_succ, Act.put, List.setIfInBounds_toArray, List.set_cons_zero, List.set_cons_succ]
  refine wpAnyH_ready (rs := [2]) (by kernel_rfl) (by simp) ?_
  refine AllReadyH.cons rfl (fun K hK => ?_) AllReadyH.nil
  (refine wp_built rfl (by go_simp; rfl) ?_; clear hbt)
  refine hK.out _ _ ?_ (fun hHeld => ?_)
  · (try dsimp only); (first | exact HR.out | exact HR1.out | exact HR2.out)
  clear hK K
  try simp only [List.getElem_toArray, List.getElem_cons_zero, List.getElem_cons_succ, Act.put, List.setIfInBounds_toArray, List.set_cons_zero, List.set_cons_succ]
  refine wpAnyH_ready (rs := [3]) (by kernel_rfl) (by simp) ?_
  refine AllReadyH.cons rfl (fun K hK => ?_) AllReadyH.nil
  (have HST2 := Lib.hid (HST1.out.alloc (A.toList ++ [Value.slice av1 nv1 cv1, .int .i64 0, .int .i64 0, .bool false]).toArray 234); have HR2 := Lib.hid (rangeOfBox ((HST2.out.heapAt 2 rfl))); go_simp)
  refine hK.out _ _ ?_ (fun hHeld => ?_)
  · (try dsimp only); (first | exact HR.out | exact HR1.out | exact HR2.out)
  clear hK K
  try simp only [List.getElem_toArray, List.getElem_cons_zero, List.getElem_cons_succ, Act.put, List.setIfInBounds_toArray, List.set_cons_zero, List.set_cons_succ]
  refine wpAnyH_take (i := 4) (v := ?_) rfl (by kernel_rfl) (by kernel_rfl) (by kernel_rfl) (fun _ _ _ h => h) (Or.inl ⟨by rfl, ?_⟩) (by assumption) ?_
  rotate_left; focus (intro w hSw; (try dsimp only at hSw); go_simp; try (with_reducible rfl); done)
  try simp only [List.getElem_toArray, List.getElem_cons_zero, List.getElem_cons_succ, Act.put, List.setIfInBounds_toArray, List.set_cons_zero, List.set_cons_succ]
  refine wpAnyH_take (i := 5) (v := ?_) rfl (by kernel_rfl) (by kernel_rfl) (by kernel_rfl) (fun _ _ _ h => h) (Or.inl ⟨by rfl, ?_⟩) (by assumption) ?_
  rotate_left; focus (intro w hSw; (try dsimp only at hSw); go_simp; try (with_reducible rfl); done)
  try simp only [List.getElem_toArray, List.getElem_cons_zero, List.getElem_cons_succ, Act.put, List.setIfInBounds_toArray, List.set_cons_zero, List.set_cons_succ]
  refine wpAnyH_done (by kernel_rfl) ?_ _
  go_wp2
  go_ret
  exact ⟨_, _, rfl, ⟨_, rfl⟩, (HST2.out.pick (ρ := [aCel _ 234 (A.toList ++ [Value.slice av1 nv1 cv1, .int .i64 0, .int .i64 0, .bool false]).toArray, aOwn 3 1 (.slice av1 nv1 cv1) ([(0 : Int)].map (Value.int .i64))]) [0, 1] 3 rfl rfl).pair⟩

theorem St.celOwn1 {w0 w : World} {μ : List Asrt} {g : Nat} {e : TypeId} {size : Nat} {u : Value} (h : St w0 w (aCel g e u.cells :: μ)) (hs : u.cells.size = size) : St w0 w (aOwn e size (.slice (some ⟨g, 0, none⟩) 1 1) [u] :: μ) :=
  h.turn (by simp [aOwn, aCel, Value.ownBlock]) (by
    have hg : w.heap[g]? = some (.cells u.cells e (0, 0)) := h.ok _ (.head _)
    refine ⟨by simp [cellsOf, hs], .inr ⟨g, 1, u.cells, rfl, Nat.zero_le _, hg, by simp, by decide, by simpa using hs, ?_⟩⟩
    simp only [List.length_singleton, Nat.one_mul, cellsOf, List.flatMap_cons, List.flatMap_nil, List.append_nil]
    exact List.take_of_length_le (by rw [Array.length_toList, hs]; exact Nat.le_refl _))

set_option maxRecDepth 100000 in
set_option maxHeartbeats 2000000 in
theorem wsRBegun (A : Array Value) (hA : A.size = 266) (w : World) :
    Calls Try.prog 83 #[.agg A] w fun e w' => ∃ g vc vs, e = .returned (.pointer (some ⟨g, 0, none⟩)) ∧ St w w' [aCel g 240 (A.toList ++ ([vc, .int .i64 0, .int .i64 0, .bool false] ++ [vs, .int .i64 0, .int .i64 0, .bool false])).toArray, aOwn 238 4 vc ([((false, 0, 2, 0) : Cl.T)].map todoV), aOwn 3 1 vs ([(0 : Int)].map (Value.int .i64))] := by
  have hst := (St.init w).alloc A 66
  have hsz : (Try.prog.info? 66).map (fun x => x.size) = some A.size := by rw [hA]; kernel_rfl
  have HS := Lib.hid hsz
  have HA := Lib.hid (hst.heapAt 0 rfl)
  have hst2 := ((hst.alloc #[.bool false, .int .i64 0, .int .i64 2, .int .i64 0] 238).alloc #[.int .i64 0] 3).alloc (A.toList ++ ([Value.slice (some ⟨w.heap.size + 1, 0, none⟩) 1 1, .int .i64 0, .int .i64 0, .bool false] ++ [Value.slice (some ⟨w.heap.size + 2, 0, none⟩) 1 1, .int .i64 0, .int .i64 0, .bool false])).toArray 240
  simp only [World.size_alloc] at hst2
  have HST := Lib.hid hst2
  have hbt := built_parser A hA (.slice (some ⟨w.heap.size + 1, 0, none⟩) 1 1) (.int .i64 0) (.int .i64 0) (.bool false) (.slice (some ⟨w.heap.size + 2, 0, none⟩) 1 1) (.int .i64 0) (.int .i64 0) (.bool false)
  have HBT := Lib.hid hbt
  clear hst hst2 hsz hbt hA
  go_enter Try.func83, Try.ntmps83
  go_wp2_with (first
    | (refine wpList_load_row rfl 66 (.tmp 1) rfl w.heap.size rfl 66 A (0, 0) _ HA.out Try.underlying66 rfl HS.out ?_)
    | (refine wpList_built rfl rfl (t := 240) (have hbt := HBT.out; by go_simp; rfl) ?_)
    | fail)
  go_ret
  refine ⟨w.heap.size + 1 + 1 + 1, rfl, .slice (some ⟨w.heap.size + 1, 0, none⟩) 1 1, .slice (some ⟨w.heap.size + 2, 0, none⟩) 1 1, ?_⟩
  have h1 := HST.out.pick (ρ := [aCel (w.heap.size + 1) 238 (todoV (false, 0, 2, 0)).cells, aCel (w.heap.size + 2) 3 (Value.int .i64 0).cells, aCel (w.heap.size + 1 + 1 + 1) 240 (A.toList ++ ([Value.slice (some ⟨w.heap.size + 1, 0, none⟩) 1 1, .int .i64 0, .int .i64 0, .bool false] ++ [Value.slice (some ⟨w.heap.size + 2, 0, none⟩) 1 1, .int .i64 0, .int .i64 0, .bool false])).toArray]) [2, 1, 0] 4 rfl rfl
  have h2 := (h1.celOwn1 (size := 4) rfl).pick (ρ := [aCel (w.heap.size + 2) 3 (Value.int .i64 0).cells, aOwn 238 4 (.slice (some ⟨w.heap.size + 1, 0, none⟩) 1 1) [todoV (false, 0, 2, 0)], aCel (w.heap.size + 1 + 1 + 1) 240 (A.toList ++ ([Value.slice (some ⟨w.heap.size + 1, 0, none⟩) 1 1, .int .i64 0, .int .i64 0, .bool false] ++ [Value.slice (some ⟨w.heap.size + 2, 0, none⟩) 1 1, .int .i64 0, .int .i64 0, .bool false])).toArray]) [1, 0, 2] 3 rfl rfl
  exact (h2.celOwn1 (size := 1) rfl).pick [2, 1, 0] 3 rfl rfl
end Go.Proofs.Ytahoapgmiecphaa

/-
  TagOf of the reference: what it computes.
-/
namespace Go.Proofs.Ytahoapgmiecphaa
open Go.ChangeShapes Go.WideShapes Go.ChangeAt Go.RowKit

namespace Aut
def tagOf (tags : List Int) (q : Int) : Int := if q < 0 then -1 else tags.getD q.toNat 0
end Aut

theorem DfaAt.below {w w' : World} {v : Value} {rows : List (List Int)} {tags : List Int} (h : DfaAt w v rows tags) (hb : Below w.heap.size w w') : DfaAt w' v rows tags := by
  obtain ⟨v0, v1, h0, h1, h2⟩ := h
  exact ⟨v0, v1, h0, h1.call hb (fun _ _ h => h), h2.call hb (fun _ _ h => h)⟩

set_option maxRecDepth 100000 in
theorem rtagOf_any (v : Value) (rows : List (List Int)) (tags : List Int) (q : Int) (w : World) (hd : DfaAt w v rows tags) (hq : q < tags.length) :
    Calls Try.prog 151 #[v, .int .i64 q] w fun e w' => e = .returned (.int .i64 (Aut.tagOf tags q)) ∧ Below w.heap.size w w' := by
  obtain ⟨v0, v1, rfl, hr, ht⟩ := hd
  obtain ⟨ao, b, off, cap, rfl, c1, c2, c3, c4, c5⟩ := slInts ht
  have C4 := Lib.hid c4; clear c4 c5
  unfold maxLen at c2
  by_cases hneg : q < 0
  · have Hf : Hid (Aut.tagOf tags q = -1) := Lib.hid (by rw [Aut.tagOf, if_pos hneg])
    clear c3
    go_enter Try.func151, Try.ntmps151
    go_wp2
    go_ret
    exact ⟨by rw [Hf.out]; rfl, (Below.refl _ _).alloc (Nat.le_refl _) _⟩
  · obtain ⟨q, rfl⟩ := Int.eq_ofNat_of_zero_le (show 0 ≤ q by omega)
    obtain ⟨rfl, hb⟩ := c3 (by omega)
    clear c3
    have Hf : Hid (Aut.tagOf tags q = tags.getD q 0) := Lib.hid (by rw [Aut.tagOf, if_neg hneg, Int.toNat_natCast])
    have hqt : q < tags.length := by omega
    have hcell := C4.out q hqt
    generalize tags.getD q 0 = t at *
    go_enter Try.func151, Try.ntmps151
    go_wp2
    go_ret
    exact ⟨by rw [Hf.out]; rfl, (Below.refl _ _).alloc (Nat.le_refl _) _⟩
end Go.Proofs.Ytahoapgmiecphaa

/-
  Several makes in one drawn region: in whatever order, all of them are made. (A helper text; it claims nothing of the program.)
-/
namespace Go.Proofs.Ytahoapgmiecphaa
set_option linter.unusedVariables false
open Go.ChangeShapes Go.WideShapes Go.ChangeAt Go.RowKit

/-- One that makes a block: its number in the region, its slot, the value, the block, what is owned. -/
structure Mk where
  i : Nat
  d : Nat
  val : Nat → Value
  obj : Obj
  asrt : Nat → Asrt
namespace Mk
def asr (x : Mk × Nat) : Asrt := x.1.asrt x.2
def puts (a : Act) (l : List (Mk × Nat)) : Act := l.foldl (fun a x => a.put (some x.1.d) (x.1.val x.2)) a
/-- It does so whatever of the others is made already. -/
structure Does (P : Program) (ops : Array Oper) (all : List Mk) (a : Act) (m : Mk) : Prop where
  run : ∃ o, ops[m.i]? = some o ∧ o.dst = some m.d ∧ o.guard = none ∧ ∀ b : Act, (∀ s, (∀ m' ∈ all, m'.d ≠ s) → b.eval (.tmp s) = a.eval (.tmp s)) → ∀ w : World, (execOp b.eval o).run P w = .ok (.value (m.val w.heap.size)) (w.alloc m.obj)
  ok : ∀ w : World, (m.asrt w.heap.size).ok (w.alloc m.obj)
  fp : ∀ g, (m.asrt g).fp = [g]
/-- make([]T, n) -/
def make (i d n : Nat) (e : TypeId) (z : Value) : Mk := ⟨i, d, fun g => .slice (some ⟨g, 0, none⟩) n n, .cells (madeCells #[z] n) e, fun g => aOwn e 1 (.slice (some ⟨g, 0, none⟩) n n) (List.replicate n z)⟩
/-- A new block. -/
def cel (i d : Nat) (T : TypeId) (cs : Array Value) : Mk := ⟨i, d, fun g => .pointer (some ⟨g, 0, none⟩), .cells cs T, fun g => aCel g T cs⟩
def lst (l0 : Array Bool) (is : List Nat) : Array Bool := is.foldl (fun l i => l.setIfInBounds i true) l0
def subs : List Nat → List (List Nat)
  | [] => [[]]
  | x :: r => subs r ++ (subs r).map (x :: ·)
theorem filter_subs (p : Nat → Bool) (l : List Nat) : l.filter p ∈ subs l := by
  induction l with
  | nil => simp [subs]
  | cons x r ih =>
    rw [subs, List.mem_append, List.filter_cons]
    split
    · exact .inr (List.mem_map.2 ⟨_, ih, rfl⟩)
    · exact .inl ih
/-- Whatever is made already, those that may come up are the others; but where one stops. -/
def chk (ops : Array Oper) (l0 : Array Bool) (is : List Nat) (stops : List (List Nat)) : Bool :=
  stops.contains is && (subs is).all fun js => stops.contains js || decide (Region.ready .any ops (lst l0 js) = is.filter (fun i => !js.contains i))
theorem lst_perm {l0 : Array Bool} {is js : List Nat} (h : is.Perm js) : lst l0 is = lst l0 js := by
  unfold lst
  refine h.foldl_eq' (fun x _ y _ z => ?_) l0
  by_cases e : x = y
  · subst e; rfl
  · exact Array.setIfInBounds_comm _ _ e
theorem perm_lift {α β : Type} (f : α → β) : ∀ {m : List β} {l : List α}, (l.map f).Perm m → ∃ l', l.Perm l' ∧ l'.map f = m := by
  intro m
  induction m with
  | nil => intro l h; have := h.length_eq; simp at this; subst this; exact ⟨[], .nil, rfl⟩
  | cons x r ih =>
    intro l h
    obtain ⟨y, hy, rfl⟩ := List.mem_map.1 (h.mem_iff.2 (.head r))
    obtain ⟨s, t, rfl⟩ := List.append_of_mem hy
    have h2 : ((s ++ t).map f).Perm r := by
      have h3 : (f y :: (s ++ t).map f).Perm (f y :: r) := by
        refine List.Perm.trans ?_ h
        have := (List.perm_middle (l₁ := s) (l₂ := t) (a := y)).symm.map f
        simpa using this
      exact h3.cons_inv
    obtain ⟨l', h4, h5⟩ := ih h2
    exact ⟨y :: l', List.perm_middle.trans (h4.cons y), by rw [List.map_cons, h5]⟩
theorem inj_of {α β : Type} (f : α → β) {l : List α} (h : (l.map f).Nodup) {x y : α} (hx : x ∈ l) (hy : y ∈ l) (he : f x = f y) : x = y := by
  induction l with
  | nil => cases hx
  | cons a r ih =>
    rw [List.map_cons, List.nodup_cons] at h
    rcases List.mem_cons.1 hx with hx2 | hx2
    · rcases List.mem_cons.1 hy with hy2 | hy2
      · rw [hx2, hy2]
      · rw [hx2] at he
        exact absurd (List.mem_map.2 ⟨y, hy2, he.symm⟩) h.1
    · rcases List.mem_cons.1 hy with hy2 | hy2
      · rw [hy2] at he
        exact absurd (List.mem_map.2 ⟨x, hx2, he⟩) h.1
      · exact ih h.2 hx2 hy2
theorem puts_perm {a : Act} {l l' : List (Mk × Nat)} (h : l.Perm l') (hd : (l.map (·.1.d)).Nodup) : puts a l = puts a l' := by
  unfold puts
  refine h.foldl_eq' (fun x hx y hy z => ?_) a
  by_cases e : x.1.d = y.1.d
  · have := inj_of (fun x : Mk × Nat => x.1.d) hd hx hy e
    subst this; rfl
  · unfold Act.put
    simp only
    rw [Array.setIfInBounds_comm _ _ e]
theorem puts_eval {s : Nat} : ∀ {l : List (Mk × Nat)} {a : Act}, (∀ x ∈ l, x.1.d ≠ s) → (puts a l).eval (.tmp s) = a.eval (.tmp s) := by
  intro l
  induction l with
  | nil => intro a _; rfl
  | cons x r ih =>
    intro a h
    have h1 := ih (a := a.put (some x.1.d) (x.1.val x.2)) (fun y hy => h y (.tail _ hy))
    have h2 : (a.put (some x.1.d) (x.1.val x.2)).eval (.tmp s) = a.eval (.tmp s) := by
      have := h x (.head _)
      simp [Act.put, Act.eval, Array.getElem?_setIfInBounds_ne this]
    exact h1.trans h2
theorem does_make {P : Program} {ops : Array Oper} {all : List Mk} {a : Act} {i d n s : Nat} {t e : TypeId} {z : Value} {bytes : Nat} {o : Oper} (ho : ops[i]? = some o) (h1 : o.op = Op.makeSlice t (.tmp s) (.tmp s)) (h2 : o.dst = some d) (h3 : o.guard = none) (h4 : P.underlying t = some (.slice e))
    (h5 : (P.info? e).map (fun i => (i.zero, i.size, i.bytes)) = some (some z, 1, bytes)) (h6 : z.cells = #[z]) (h7 : 0 < bytes) (hn : (bytes : Int) * n ≤ 140737488355328) (h9 : a.eval (.tmp s) = .int .i64 (n : Int)) (h11 : (all.map (·.d)).contains s = false) : Does P ops all a (make i d n e z) := by
  have h10 : ∀ m' ∈ all, m'.d ≠ s := fun m' hm e => by
    rw [← Bool.not_eq_true, List.contains_iff_mem] at h11
    exact h11 (List.mem_map.2 ⟨m', hm, e⟩)
  have hn' : bytes * n ≤ 140737488355328 := by rw [← Int.natCast_mul] at hn; omega
  have hle : n ≤ bytes * n := Nat.le_mul_of_pos_left n h7
  refine ⟨⟨o, ho, h2, h3, fun b hb w => ?_⟩, fun w => own_mk w e z h6 n (by unfold maxLen; omega), fun g => rfl⟩
  have hrun := run_make_row' (P := P) t e z bytes h4 h5 h6 .i64 .i64 n (by omega) (by omega) w
  have hev := (hb s h10).trans h9
  simp [execOp, h1, hev, hrun, Result.andThen, make]
theorem does_cel {P : Program} {ops : Array Oper} {all : List Mk} {a : Act} {i d : Nat} {T : TypeId} {cs : Array Value} {o : Oper} (ho : ops[i]? = some o) (h2 : o.dst = some d) (h3 : o.guard = none) (hr : ∀ b : Act, ∀ w : World, (execOp b.eval o).run P w = .ok (.value (.pointer (some ⟨w.heap.size, 0, none⟩))) (w.alloc (.cells cs T))) : Does P ops all a (cel i d T cs) :=
  ⟨⟨o, ho, h2, h3, fun b _ w => hr b w⟩, fun w => heap_alloc_new _ _, fun g => rfl⟩
end Mk

theorem wpAny_makes {P : Program} {w0 : World} {μ : List Asrt} {ops : Array Oper} {Q : Exit → Act → World → Prop} (all : List Mk) (stops : List (List Nat)) (fuel : Nat) (l0 : Array Bool) (a : Act)
    (hck : Mk.chk ops l0 (all.map (·.i)) stops = true) (hdn : (all.map (·.d)).Nodup) (hin : (all.map (·.i)).Nodup) (hop : ∀ m ∈ all, Mk.Does P ops all a m)
    (hK : ∀ js ∈ stops, ∀ (k : Nat) (ds : List (Mk × Nat)), ds.map (·.1) = all.filter (fun m => js.contains m.i) → ds.length + k = all.length → ∀ w', St w0 w' (ds.map Mk.asr ++ μ) → wpAny P .any ops Q (k + fuel) (Mk.lst l0 (ds.map (·.1.i))) (Mk.puts a ds) w') :
    ∀ (k : Nat) (pend : List Mk) (done : List (Mk × Nat)) (w : World), pend.length = k → (done.map (·.1) ++ pend).Perm all → St w0 w (done.map Mk.asr ++ μ) → wpAny P .any ops Q (k + fuel) (Mk.lst l0 (done.map (·.1.i))) (Mk.puts a done) w := by
  unfold Mk.chk at hck
  rw [Bool.and_eq_true, List.all_eq_true] at hck
  obtain ⟨hfin, hck⟩ := hck
  intro k
  induction k with
  | zero =>
    intro pend done w hl hp hst
    have : pend = [] := List.eq_nil_of_length_eq_zero hl
    subst this
    rw [List.append_nil] at hp
    obtain ⟨ds, h1, h2⟩ := Mk.perm_lift (fun x : Mk × Nat => x.1) hp
    have hfa : all.filter (fun m => (all.map (·.i)).contains m.i) = all := by
      refine List.filter_eq_self.2 (fun m hm => ?_)
      rw [List.contains_iff_mem]
      exact List.mem_map.2 ⟨m, hm, rfl⟩
    have h3 := hK (all.map (·.i)) (by rw [List.contains_iff_mem] at hfin; exact hfin) 0 ds (by rw [hfa]; exact h2) (by have := congrArg List.length h2; simpa using this) w (hst.perm ((h1.map _).append_right μ))
    have hdd : (done.map (·.1.d)).Nodup := by
      have := (hp.map (·.d)).nodup_iff.2 hdn
      rw [List.map_map] at this
      exact this
    rw [Mk.puts_perm h1 hdd, Mk.lst_perm (h1.map (·.1.i))]
    exact h3
  | succ k ih =>
    intro pend done w hl hp hst
    obtain ⟨m0, r0, rfl⟩ : ∃ m r, pend = m :: r := by cases pend with | nil => simp at hl | cons m r => exact ⟨m, r, rfl⟩
    have hip := (hp.map (·.i)).nodup_iff.2 hin
    have hdp := (hp.map (·.d)).nodup_iff.2 hdn
    rw [List.map_append, List.map_map] at hip hdp
    have hgen : ∀ (p : Mk → Bool), (∀ x ∈ done, p x.1 = true) → (∀ m ∈ m0 :: r0, p m = false) → (all.filter p).Perm (done.map (·.1)) := by
      intro p h1 h2
      refine (hp.filter p).symm.trans ?_
      rw [List.filter_append]
      have h3 : (done.map (·.1)).filter p = done.map (·.1) := by
        refine List.filter_eq_self.2 (fun m hm => ?_)
        obtain ⟨x, hx, rfl⟩ := List.mem_map.1 hm
        exact h1 x hx
      have h4 : (m0 :: r0).filter p = [] := by
        rw [List.filter_eq_nil_iff]
        intro m hm
        rw [h2 m hm]; simp
      rw [h3, h4, List.append_nil]
    have hdc : ∀ x ∈ done, (done.map (·.1.i)).contains x.1.i = true := fun x hx => by rw [List.contains_iff_mem]; exact List.mem_map.2 ⟨x, hx, rfl⟩
    have hpc : ∀ m ∈ m0 :: r0, (done.map (·.1.i)).contains m.i = false := fun m hm => by
      rw [← Bool.not_eq_true, List.contains_iff_mem]
      intro hc
      rw [List.nodup_append] at hip
      exact hip.2.2 m.i hc m.i (List.mem_map.2 ⟨m, hm, rfl⟩) rfl
    have h1 := hck _ (Mk.filter_subs (fun i => (done.map (·.1.i)).contains i) (all.map (·.i)))
    have hfm : (all.map (·.i)).filter (fun i => (done.map (·.1.i)).contains i) = (all.filter (fun m => (done.map (·.1.i)).contains m.i)).map (·.i) := by rw [List.filter_map]; rfl
    have hperm : ((all.map (·.i)).filter (fun i => (done.map (·.1.i)).contains i)).Perm (done.map (·.1.i)) := by
      rw [hfm]
      have := (hgen _ hdc hpc).map (·.i)
      rw [List.map_map] at this
      exact this
    rw [Bool.or_eq_true, decide_eq_true_eq] at h1
    rcases h1 with h1 | h1
    · -- here one stops
      have hp1 := hgen (fun m => ((all.map (·.i)).filter (fun i => (done.map (·.1.i)).contains i)).contains m.i) (fun x hx => by
        rw [List.contains_iff_mem, hperm.mem_iff]
        exact List.mem_map.2 ⟨x, hx, rfl⟩) (fun m hm => by
        have := hpc m hm
        rw [← Bool.not_eq_true, List.contains_iff_mem] at this ⊢
        rw [hperm.mem_iff]
        exact this)
      obtain ⟨ds, h2, h3⟩ := Mk.perm_lift (fun x : Mk × Nat => x.1) hp1.symm
      have hdd : (done.map (·.1.d)).Nodup := by
        rw [List.nodup_append] at hdp
        exact hdp.1
      rw [Mk.puts_perm h2 hdd, Mk.lst_perm (h2.map (·.1.i))]
      refine hK _ (by rw [List.contains_iff_mem] at h1; exact h1) (k + 1) ds h3 ?_ w (hst.perm ((h2.map _).append_right μ))
      have e1 := hp.length_eq
      have e2 := h2.length_eq
      rw [List.length_append, List.length_map] at e1
      omega
    · rw [Mk.lst_perm hperm] at h1
      have hready : Region.ready .any ops (Mk.lst l0 (done.map (·.1.i))) = (all.map (·.i)).filter (fun i => !(done.map (·.1.i)).contains i) := by
        rw [h1]
        refine List.filter_congr (fun x hx => ?_)
        congr 1
        rw [Bool.eq_iff_iff, List.contains_iff_mem, List.contains_iff_mem, hperm.mem_iff]
      rw [Nat.succ_add, wpAny, hready]
      refine ⟨fun h0 => ?_, fun i hi => ?_⟩
      · exfalso
        rw [List.filter_eq_nil_iff] at h0
        have hm0 : m0 ∈ all := hp.mem_iff.1 (by simp)
        refine h0 m0.i (List.mem_map.2 ⟨m0, hm0, rfl⟩) ?_
        rw [hpc m0 (.head _)]; rfl
      · rw [List.mem_filter, List.mem_map] at hi
        obtain ⟨⟨m, hm, rfl⟩, hnc⟩ := hi
        rw [Bool.not_eq_true', ← Bool.not_eq_true, List.contains_iff_mem] at hnc
        have hmp : m ∈ m0 :: r0 := by
          rcases List.mem_append.1 (hp.mem_iff.2 hm) with h1 | h1
          · obtain ⟨x, hx, rfl⟩ := List.mem_map.1 h1
            exact absurd (List.mem_map.2 ⟨x, hx, rfl⟩) hnc
          · exact h1
        obtain ⟨s, t, hst2⟩ := List.append_of_mem hmp
        rw [hst2] at hp
        obtain ⟨⟨o, ho, h2, h3, hrun⟩, hok, hfp⟩ := hop m hm
        have hex := hrun (Mk.puts a done) (fun s hs => Mk.puts_eval (fun x hx => hs x.1 (hp.mem_iff.1 (List.mem_append.2 (.inl (List.mem_map.2 ⟨x, hx, rfl⟩)))))) w
        unfold wpOp
        simp only [ho]
        rw [if_pos (by simp [Region.wanted, h3])]
        refine .inl ?_
        unfold Oper.wp
        rw [hex]
        simp only [Oper.upon]
        have hst3 : St w0 (w.alloc m.obj) (Mk.asr (m, w.heap.size) :: (done.map Mk.asr ++ μ)) := by
          refine hst.push ((Below.refl _ _).alloc (Nat.le_refl _) _) (hok w) (fun b hb => ?_) (by show (m.asrt w.heap.size).fp.Nodup; rw [hfp]; simp)
          have hb2 : b ∈ (m.asrt w.heap.size).fp := hb
          rw [hfp] at hb2
          simp at hb2
          subst hb2
          simp
        have h11 := ih (s ++ t) (done ++ [(m, w.heap.size)]) (w.alloc m.obj) (by rw [hst2] at hl; simp at hl ⊢; omega) (by
          refine List.Perm.trans ?_ hp
          rw [List.map_append, List.append_assoc]
          refine List.Perm.append_left _ ?_
          show List.Perm (m :: (s ++ t)) (s ++ m :: t)
          exact List.perm_middle.symm) (by
          refine hst3.perm ?_
          rw [List.map_append, List.append_assoc]
          exact List.perm_middle.symm)
        have h12 : Mk.lst l0 ((done ++ [(m, w.heap.size)]).map (·.1.i)) = (Mk.lst l0 (done.map (·.1.i))).setIfInBounds m.i true := by simp [Mk.lst]
        have h13 : Mk.puts a (done ++ [(m, w.heap.size)]) = (Mk.puts a done).put o.dst (m.val w.heap.size) := by rw [h2]; simp [Mk.puts]
        rw [h12, h13] at h11
        exact h11
/-- All of them, from the start. -/
theorem St.makes {P : Program} {w0 w : World} {μ : List Asrt} {ops : Array Oper} {Q : Exit → Act → World → Prop} (all : List Mk) (stops : List (List Nat)) (fuel : Nat) {m : Nat} {l0 : Array Bool} {a : Act} (h : St w0 w μ) (hm : m = all.length + fuel)
    (hck : Mk.chk ops l0 (all.map (·.i)) stops = true) (hdn : decide (all.map (·.d)).Nodup = true) (hin : decide (all.map (·.i)).Nodup = true) (hop : ∀ m ∈ all, Mk.Does P ops all a m)
    (hK : ∀ js ∈ stops, ∀ (k : Nat) (ds : List (Mk × Nat)), ds.map (·.1) = all.filter (fun m => js.contains m.i) → ds.length + k = all.length → ∀ w', St w0 w' (ds.map Mk.asr ++ μ) → wpAny P .any ops Q (k + fuel) (Mk.lst l0 (ds.map (·.1.i))) (Mk.puts a ds) w') : wpAny P .any ops Q m l0 a w := by
  subst hm
  exact wpAny_makes all stops fuel l0 a hck (of_decide_eq_true hdn) (of_decide_eq_true hin) hop hK all.length all [] w rfl (List.Perm.refl _) h
/-- A list of pairs by its first parts. -/
theorem Mk.split {x : Mk} {r : List Mk} {ds : List (Mk × Nat)} (h : ds.map (·.1) = x :: r) : ∃ g ds', ds = (x, g) :: ds' ∧ ds'.map (·.1) = r := by
  cases ds with
  | nil => cases h
  | cons y ds => rw [List.map_cons, List.cons.injEq] at h; obtain ⟨m, g⟩ := y; obtain ⟨rfl, h2⟩ := h; exact ⟨g, ds, rfl, h2⟩
theorem Mk.done {ds : List (Mk × Nat)} (h : ds.map (·.1) = []) : ds = [] := by simpa using h
end Go.Proofs.Ytahoapgmiecphaa

/-
  A block written whole, read whole, handed back. (A helper text; it claims nothing of the program.)
-/
namespace Go.Proofs.Ytahoapgmiecphaa
set_option linter.unusedVariables false
open Go.ChangeShapes Go.WideShapes Go.ChangeAt Go.RowKit

theorem St.setRow {w0 w : World} {μ : List Asrt} {g : Nat} {T : TypeId} {cs : Array Value} (h : St w0 w (aCel g T cs :: μ)) (cs' : Array Value) : St w0 (w.setRow g cs') (aCel g T cs' :: μ) := by
  refine h.upd rfl rfl rfl (by simp) (fun b hb hm => ?_) (setRow_heap _ _ _ _ _ _ (h.ok _ (.head _))) (fun b hb => .inl hb) (by simp [aCel])
  exact setRow_other _ _ _ _ (fun e => hm (by simp [aCel, e]))
/-- A result that lies in a block, and one more beside it. -/
theorem results_row_tmp {P : Program} {fn : Func} {p u : Tmp} {ty : TypeId} (h : fn.results = #[.cell p ty, .tmp u]) (tmps : Array Value) (w : World) (g : Nat) (t : TypeId) (cs : Array Value) (d : TypeDesc)
    (hp : tmps.getD p undef = .pointer (some ⟨g, 0, none⟩)) (hg : w.heap[g]? = some (.cells cs t (0, 0))) (hu : P.underlying ty = some d) (hd : (match d with | .struct _ | .array _ _ => true | _ => false) = true) (hi : (P.info? ty).map (·.size) = some cs.size) :
    (results fn tmps).run P w = .ok (.tuple #[.agg cs, tmps.getD u undef]) w := by
  rw [results_cell_tmp h, hp]
  simp [asAddr, run_loadVar_row w g t ty cs (0, 0) d hg hu hd hi, Result.andThen]
theorem results_row {P : Program} {fn : Func} {p : Tmp} {ty : TypeId} (h : fn.results = #[.cell p ty]) (tmps : Array Value) (w : World) (g : Nat) (t : TypeId) (cs : Array Value) (d : TypeDesc)
    (hp : tmps.getD p undef = .pointer (some ⟨g, 0, none⟩)) (hg : w.heap[g]? = some (.cells cs t (0, 0))) (hu : P.underlying ty = some d) (hd : (match d with | .struct _ | .array _ _ => true | _ => false) = true) (hi : (P.info? ty).map (·.size) = some cs.size) :
    (results fn tmps).run P w = .ok (.agg cs) w := results_cell_row h tmps w g t cs (0, 0) d hp hg hu hd hi
/-- A block written whole. -/
theorem St.rowOp {P : Program} {w0 w : World} {μ : List Asrt} {ops : Array Oper} {rest : List Oper} {o : Oper} {a : Act} {Q : Exit → Act → World → Prop} {T : TypeId} {old : Array Value} (hgd : o.guard = none) (ty : TypeId) (x y : Operand) (ho : o.op = .store ty x y) (g : Nat) (cells : Array Value) (hx : a.eval x = .pointer (some ⟨g, 0, none⟩)) (hy : a.eval y = .agg cells)
    (h : St w0 w (aCel g T old :: μ)) (hi : (P.info? ty).map (·.size) = some cells.size) (hold : old.size = cells.size) (h1 : cells.all (·.oneCell') = true)
    (hK : ∀ w', St w0 w' (aCel g T cells :: μ) → wpList P ops Q rest (a.put o.dst undef) w') : wpList P ops Q (o :: rest) a w :=
  wpList_store_row hgd ty x y ho g cells hx hy T old (h.ok _ (.head _)) hi hold h1 (hK _ (h.setRow cells))
/-- A block read whole. -/
theorem St.rowIn {P : Program} {w0 w : World} {μ : List Asrt} {ops : Array Oper} {rest : List Oper} {o : Oper} {a : Act} {Q : Exit → Act → World → Prop} {T : TypeId} {cs : Array Value} (hgd : o.guard = none) (ty : TypeId) (x : Operand) (ho : o.op = .load ty x) (g : Nat) (hx : a.eval x = .pointer (some ⟨g, 0, none⟩)) (d : TypeDesc)
    (h : St w0 w μ) (i : Nat) (hA : μ[i]? = some (aCel g T cs)) (hu : P.underlying ty = some d) (hd : (match d with | .struct _ | .array _ _ => true | _ => false) = true) (hi : (P.info? ty).map (·.size) = some cs.size)
    (hK : wpList P ops Q rest (a.put o.dst (.agg cs)) w) : wpList P ops Q (o :: rest) a w :=
  wpList_load_row hgd ty x ho g hx T cs (0, 0) d (h.heapAt i hA) hu hd hi hK
/-- make([]T, n) at a step of a region that draws its order. -/
theorem St.stepMake {P : Program} {w0 w : World} {μ : List Asrt} {ops : Array Oper} {o : Oper} {a : Act} {K : Act → World → Prop} {Q : Exit → Act → World → Prop} {EE : Prop} {t e : TypeId} {bytes : Nat} {z : Value} (hgd : o.guard = none) (l : Operand) (hop : o.op = Op.makeSlice t l l)
    (ht : P.underlying t = some (.slice e)) (hi : (P.info? e).map (fun i => (i.zero, i.size, i.bytes)) = some (some z, 1, bytes)) (hz : z.cells = #[z]) (h : St w0 w μ) (n : Nat) (hl : a.eval l = .int .i64 (n : Int)) (hn : (bytes : Int) * n ≤ 140737488355328) (hb : 0 < bytes)
    (hK : ∀ g w', St w0 w' (aOwn e 1 (.slice (some ⟨g, 0, none⟩) n n) (List.replicate n z) :: μ) → K (a.put o.dst (.slice (some ⟨g, 0, none⟩) n n)) w') : if Region.wanted o (yielded ops a.tmps) = true then Oper.wp P o a w K Q else EE := by
  have hw : Region.wanted o (yielded ops a.tmps) = true := by simp [Region.wanted, hgd]
  rw [if_pos hw]
  have hn' : bytes * n ≤ 140737488355328 := by rw [← Int.natCast_mul] at hn; omega
  have hle : n ≤ bytes * n := Nat.le_mul_of_pos_left n hb
  have hrun := run_make_row' (P := P) t e z bytes ht hi hz .i64 .i64 n (by omega) (by omega) w
  unfold Oper.wp execOp
  simp only [hop, hl, Sem.run_bind, hrun, Result.andThen_ok, Sem.run_pure]
  refine hK w.heap.size _ ?_
  refine h.push ((Below.refl _ _).alloc (Nat.le_refl _) _) (own_mk w e z hz n (by unfold maxLen; omega)) (fun b hb => ?_) (by simp [aOwn, Value.ownBlock])
  simp [aOwn, Value.ownBlock] at hb
  subst hb
  simp
/-- A new block at such a step. -/
theorem St.stepNew {P : Program} {w0 w : World} {μ : List Asrt} {ops : Array Oper} {o : Oper} {a : Act} {K : Act → World → Prop} {Q : Exit → Act → World → Prop} {EE : Prop} {T : TypeId} {cs : Array Value} (hgd : o.guard = none) (hr : ∀ u : World, (execOp a.eval o).run P u = .ok (.value (.pointer (some ⟨u.heap.size, 0, none⟩))) (u.alloc (.cells cs T)))
    (h : St w0 w μ) (hK : ∀ g w', St w0 w' (aCel g T cs :: μ) → K (a.put o.dst (.pointer (some ⟨g, 0, none⟩))) w') : if Region.wanted o (yielded ops a.tmps) = true then Oper.wp P o a w K Q else EE := by
  have hw : Region.wanted o (yielded ops a.tmps) = true := by simp [Region.wanted, hgd]
  rw [if_pos hw]
  unfold Oper.wp
  rw [hr w]
  exact hK _ _ (h.alloc cs T)
/-- A block written whole at such a step. -/
theorem St.stepRow {P : Program} {w0 w : World} {μ : List Asrt} {ops : Array Oper} {o : Oper} {a : Act} {K : Act → World → Prop} {Q : Exit → Act → World → Prop} {EE : Prop} {T : TypeId} {old : Array Value} (hgd : o.guard = none) (ty : TypeId) (x y : Operand) (ho : o.op = .store ty x y) (g : Nat) (cells : Array Value) (hx : a.eval x = .pointer (some ⟨g, 0, none⟩)) (hy : a.eval y = .agg cells)
    (h : St w0 w (aCel g T old :: μ)) (hi : (P.info? ty).map (·.size) = some cells.size) (hold : old.size = cells.size) (h1 : cells.all (·.oneCell') = true)
    (hK : ∀ w', St w0 w' (aCel g T cells :: μ) → K (a.put o.dst undef) w') : if Region.wanted o (yielded ops a.tmps) = true then Oper.wp P o a w K Q else EE := by
  have hw : Region.wanted o (yielded ops a.tmps) = true := by simp [Region.wanted, hgd]
  rw [if_pos hw]
  exact wp_store_row ty x y ho g cells hx hy T old (h.ok _ (.head _)) hi hold h1 (hK _ (h.setRow cells))
end Go.Proofs.Ytahoapgmiecphaa

/-
  Rows of an automaton: []T{x} of one array, a slice of rows as a list. (A helper text; it claims nothing of the program.)
-/
namespace Go.Proofs.Ytahoapgmiecphaa
set_option linter.unusedVariables false
open Go.ChangeShapes Go.WideShapes Go.ChangeAt Go.RowKit

theorem buildOne {P : Program} {ops : Array Oper} {rest : List Oper} {o : Oper} {a : Act} {w : World} {Q : Exit → Act → World → Prop} {t e : TypeId} {size bytes : Nat} (E : ET P t e size bytes) (hg : o.guard = none) (x : Operand) (ho : o.op = .buildSlice t 1 #[(0, x)])
    (A : Array Value) (hx : a.eval x = .agg A) (hA : A.size = size) (hsm : size ≤ 16777216)
    (h : wpList P ops Q rest (a.put o.dst (.slice (some ⟨w.heap.size, 0, none⟩) 1 1)) (w.alloc (.cells A e))) : wpList P ops Q (o :: rest) a w := by
  obtain ⟨ht, ⟨i, z, hi, hz, hsize, hby, hzs⟩, hp⟩ := E
  refine wpList_buildSlice hg t e 1 _ ho A i z ht hi hz (by rw [hsize]; omega) (by rw [hsize]; omega) ?_ h
  have := Great.fill_whole hp [Value.agg A] ((Array.range (1 * size)).map (z.cells[· % z.cells.size]!)) (fun v hv => by simp at hv; subst hv; exact hA) (by simp)
  rw [hsize]
  simp only [List.map_toArray, List.map_cons, List.map_nil, hx]
  simpa [Value.cells] using this

theorem Own.isSlice {w : World} {B : Nat} {e : TypeId} {size : Nat} {v : Value} {xs : List Value} (h : Own w B e size v xs) : ∃ ao n cap, v = .slice ao n cap := by
  rcases h.shape with ⟨h1, _⟩ | ⟨g, cap, h1, _⟩
  · exact ⟨_, _, _, h1⟩
  · exact ⟨_, _, _, h1⟩

theorem rowE : ET Try.prog 40 142 256 512 := ET.mk' Try.underlying40 (z := .agg Try.zeroCells142) (by kernel_rfl) (by kernel_rfl) (by decide)

theorem flat_get {α β : Type} (f : α → List β) (m : Nat) : ∀ (L : List α), (∀ a ∈ L, (f a).length = m) → ∀ (i : Nat) (h : i < L.length) (j : Nat), j < m → (L.flatMap f)[i * m + j]? = (f L[i])[j]?
  | [], _, i, h, _, _ => by simp at h
  | a :: L, hl, 0, _, j, hj => by
    have := hl a (by simp)
    rw [List.flatMap_cons, Nat.zero_mul, Nat.zero_add, List.getElem?_append_left (by omega)]
    rfl
  | a :: L, hl, i + 1, h, j, hj => by
    have h1 := hl a (by simp)
    have e : (i + 1) * m + j = m + (i * m + j) := by rw [Nat.succ_mul]; omega
    rw [List.flatMap_cons, e, List.getElem?_append_right (by omega), h1, Nat.add_sub_cancel_left]
    exact flat_get f m L (fun b hb => hl b (by simp [hb])) i (by simpa using h) j hj

theorem Sl.wf {w : World} {k : IntKind} {v : Value} {l : List Int} (h : Sl w 1 (RInt k) v l) : ∀ x ∈ l, (Lit.int k x).wf = true := by
  obtain ⟨ao, b, off, cap, _, _, _, _, h4⟩ := h
  intro x hx
  obtain ⟨i, hi, rfl⟩ := List.getElem_of_mem hx
  obtain ⟨cs, _, _, _, h7⟩ := h4 i hi
  exact h7

/-- The same at a step of a region that draws its order. -/
theorem stepOne {P : Program} {ops : Array Oper} {o : Oper} {a : Act} {w : World} {K : Act → World → Prop} {Q : Exit → Act → World → Prop} {EE : Prop} {t e : TypeId} {size bytes : Nat} (E : ET P t e size bytes) (hgd : o.guard = none) (x : Operand) (ho : o.op = .buildSlice t 1 #[(0, x)])
    (A : Array Value) (hx : a.eval x = .agg A) (hA : A.size = size) (hsm : size ≤ 16777216)
    (h : K (a.put o.dst (.slice (some ⟨w.heap.size, 0, none⟩) 1 1)) (w.alloc (.cells A e))) : if Region.wanted o (yielded ops a.tmps) = true then Oper.wp P o a w K Q else EE := by
  have hw : Region.wanted o (yielded ops a.tmps) = true := by simp [Region.wanted, hgd]
  rw [if_pos hw]
  obtain ⟨ht, ⟨i, z, hi, hz, hsize, hby, hzs⟩, hp⟩ := E
  refine wp_buildSlice t e 1 _ ho A i z ht hi hz (by rw [hsize]; omega) (by rw [hsize]; omega) ?_ h
  have := Great.fill_whole hp [Value.agg A] ((Array.range (1 * size)).map (z.cells[· % z.cells.size]!)) (fun v hv => by simp at hv; subst hv; exact hA) (by simp)
  rw [hsize]
  simp only [List.map_toArray, List.map_cons, List.map_nil, hx]
  simpa [Value.cells] using this

theorem Own.one {w : World} {g : Nat} {e : TypeId} {size : Nat} {u : Value} (h : w.heap[g]? = some (.cells u.cells e (0, 0))) (hs : u.cells.size = size) : Own w 0 e size (.slice (some ⟨g, 0, none⟩) 1 1) [u] := by
  refine ⟨by simp [cellsOf, hs], .inr ⟨g, 1, u.cells, rfl, Nat.zero_le _, h, Nat.le_refl _, by decide, by simp [hs], ?_⟩⟩
  simp [cellsOf]
  exact List.take_of_length_le (by rw [Array.length_toList]; omega)

namespace Wd
def rowV (r : List Int) : Value := .agg (r.map (Value.int .i16)).toArray
theorem flat (L : List (List Int)) : cellsOf (L.map rowV) = L.flatMap (fun r => r.map (Value.int .i16)) := by
  induction L with
  | nil => rfl
  | cons r L ih => simpa [cellsOf, Value.cells, rowV] using ih
theorem sl {w : World} {B : Nat} {e : TypeId} {v : Value} {L : List (List Int)} (h : Own w B e 256 v (L.map rowV)) (hw : ∀ r ∈ L, r.length = 256 ∧ ∀ x ∈ r, (Lit.int .i16 x).wf = true) : Sl w 256 (RRow .i16 256) v L := by
  have hr := h
  unfold Own at hr
  rw [flat, List.length_map] at hr
  have hf := flat_get (fun r : List Int => r.map (Value.int .i16)) 256 L (fun r hr => by simp [(hw r hr).1])
  have hlen := hr.1
  rcases hr.2 with ⟨h1, h2⟩ | ⟨g, cap, cur, rfl, hB, hg, hn, hc, hcs, htk⟩
  · have : L = [] := List.eq_nil_of_length_eq_zero h2
    subst this
    exact ⟨none, 0, 0, 0, h1, Nat.le_refl _, by decide, fun h => by simp at h, fun i hi => by simp at hi⟩
  · refine ⟨some ⟨g, 0, none⟩, g, 0, cap, rfl, hn, hc, fun _ => ⟨rfl, (Array.getElem?_eq_some_iff.1 hg).1⟩, fun i hi => ⟨L[i].map (Value.int .i16), by simp [(hw _ (List.getElem_mem hi)).1], fun j hj => ?_, rfl, hw _ (List.getElem_mem hi)⟩⟩
    have h5 : i * 256 + j < L.length * 256 := by omega
    have := hr.cellAt (i * 256 + j) h5
    rw [Nat.zero_add, this]
    exact hf i hi j hj
attribute [irreducible] rowV
end Wd
end Go.Proofs.Ytahoapgmiecphaa

/-
  Unpack of package small: what it computes.
-/
namespace Go.Proofs.Ytahoapgmiecphaa
open Go.ChangeShapes Go.WideShapes Go.ChangeAt Go.RowKit

namespace Wd
def rowOf (of r : List Int) : List Int := (List.range 256).map fun b => r.getD (of.getD b 0).toNat 0
theorem rowOf_len (of r : List Int) : (rowOf of r).length = 256 := by simp [rowOf]
theorem rowOf_get (of r : List Int) (c : Nat) (hc : c < 256) : (rowOf of r)[c]'(by rw [rowOf_len]; exact hc) = r.getD (of.getD c 0).toNat 0 := by simp [rowOf]
/-- The row while it is filled: its first c numbers are there. -/
def part (of r : List Int) (c : Nat) : Array Value := (((rowOf of r).take c).map (Value.int .i16) ++ List.replicate (256 - c) (Value.int .i16 0)).toArray
theorem part_size (of r : List Int) (c : Nat) (hc : c ≤ 256) : (part of r c).size = 256 := by simp [part, rowOf_len]; omega
theorem part_get (of r : List Int) (c : Nat) (hc : c < 256) : (part of r c)[c]? = some (.int .i16 0) := by
  have hl : (((rowOf of r).take c).map (Value.int .i16)).length = c := by simp [rowOf_len]; omega
  simp only [part, List.getElem?_toArray]
  rw [List.getElem?_append_right (by omega), hl, Nat.sub_self, List.getElem?_replicate]
  simp; omega
theorem part_step (of r : List Int) (c : Nat) (hc : c < 256) : (part of r c).setIfInBounds c (.int .i16 (r.getD (of.getD c 0).toNat 0)) = part of r (c + 1) := by
  have hl : (((rowOf of r).take c).map (Value.int .i16)).length = c := by simp [rowOf_len]; omega
  have hcl : c < (rowOf of r).length := by rw [rowOf_len]; exact hc
  have e1 : List.replicate (256 - c) (Value.int .i16 0) = Value.int .i16 0 :: List.replicate (256 - (c + 1)) (Value.int .i16 0) := by
    rw [show 256 - c = (256 - (c + 1)) + 1 by omega, List.replicate_succ]
  simp only [part, List.setIfInBounds_toArray]
  rw [List.take_succ_eq_append_getElem hcl, List.map_append, e1, List.set_append_right _ _ (by omega), hl, Nat.sub_self, List.set_cons_zero, List.append_assoc, List.map_cons, List.map_nil, rowOf_get of r c hc]
  rfl
theorem part_one (of r : List Int) : ∀ q ∈ (Value.agg (part of r 256)).cells.toList, q.oneCell' = true := by
  intro q hq
  simp only [Value.cells, part, Nat.sub_self, List.replicate_zero, List.append_nil, List.mem_map] at hq
  obtain ⟨n, _, rfl⟩ := hq
  rfl
theorem part_end (of r : List Int) : part of r 256 = ((rowOf of r).map (Value.int .i16)).toArray := by
  simp only [part, Nat.sub_self, List.replicate_zero, List.append_nil]
  rw [List.take_of_length_le (by rw [rowOf_len]; exact Nat.le_refl _)]
def rows (of : List Int) (next : List (List Int)) (k : Nat) : List (List Int) := (List.range k).map fun i => rowOf of (next.getD i [])
theorem rows_succ (of : List Int) (next : List (List Int)) (k : Nat) : rows of next (k + 1) = rows of next k ++ [rowOf of (next.getD k [])] := by simp [rows, List.range_succ]
theorem rows_len (of : List Int) (next : List (List Int)) (k : Nat) : (rows of next k).length = k := by simp [rows]
theorem part_zero (of r : List Int) : part of r 0 = Try.zeroCells142 := by
  have h : (List.replicate 256 (Value.int .i16 0)).toArray = Try.zeroCells142 := by kernel_rfl
  rw [← h]; simp only [part, List.take_zero, List.map_nil, List.nil_append, Nat.sub_zero]
theorem rows_wf (of : List Int) (next : List (List Int)) (tags : List Int) (hg : Pkd.Good of next tags) (h200 : next.length ≤ 200) (hof : ∀ c, c < 256 → 0 ≤ of.getD c 0) : ∀ r ∈ rows of next next.length, r.length = 256 ∧ ∀ x ∈ r, (Lit.int .i16 x).wf = true := by
  intro r hr
  simp only [rows, List.mem_map, List.mem_range] at hr
  obtain ⟨k, hk, rfl⟩ := hr
  refine ⟨rowOf_len _ _, fun x hx => ?_⟩
  simp only [rowOf, List.mem_map, List.mem_range] at hx
  obtain ⟨c, hc, rfl⟩ := hx
  have h1 := (hg.rows k hk).2.2 (of.getD c 0).toNat (by have := hg.cols c hc; have := hof c hc; omega)
  generalize (next.getD k []).getD (of.getD c 0).toNat 0 = x at *
  simp [Lit.wf, IntKind.min, IntKind.max, IntKind.signed, IntKind.bits]
  omega
theorem rows_zero (of : List Int) (next : List (List Int)) : rows of next 0 = [] := rfl
attribute [irreducible] rowOf part rows
end Wd
end Go.Proofs.Ytahoapgmiecphaa

/-
  Wide of the reference: what it computes.
-/
namespace Go.Proofs.Ytahoapgmiecphaa
open Go.ChangeShapes Go.WideShapes Go.ChangeAt Go.RowKit

theorem Own.mono {w : World} {B B2 : Nat} {e : TypeId} {size : Nat} {v : Value} {xs : List Value} (h : Own w B e size v xs) (hb : B2 ≤ B) : Own w B2 e size v xs := by
  refine ⟨h.1, ?_⟩
  rcases h.2 with h2 | ⟨g, cap, cur, h1, h2, h3⟩
  · exact .inl h2
  · exact .inr ⟨g, cap, cur, h1, Nat.le_trans hb h2, h3⟩

set_option maxRecDepth 100000 in
set_option maxHeartbeats 8000000 in
theorem wide_ok (A : Array Value) (of : List Int) (next : List (List Int)) (tags : List Int) (vn vt : Value) (w : World) (hp : PackedAt w A of next tags vn vt) (h200 : next.length ≤ 200) (hg : Pkd.Good of next tags) :
    Calls Try.prog 82 #[.agg A] w fun e w' => ∃ v0, e = .returned (.agg #[v0, vt]) ∧ Own w' w.heap.size 142 256 v0 ((Wd.rows of next next.length).map Wd.rowV) ∧ Below w.heap.size w w' := by
  have hsz : (Try.prog.info? 61).map (·.size) = some A.size := by rw [hp.size]; kernel_rfl
  have HS := Lib.hid hsz; clear hsz
  have c256 := hp.c256; have c257 := hp.c257
  have HG := Lib.hid hg; clear hg
  have HP := Lib.hid hp
  obtain ⟨ao, b, off, cap, rfl, n1, n2, n3, n4⟩ := slSls hp.nexts
  unfold maxLen at n2
  clear n2
  obtain ⟨rfl, hb⟩ := n3 (by have := HG.out.n0; omega)
  have N4 := Lib.hid n4; clear n4 n3
  obtain ⟨ao2, _, _, cp2, rfl, _⟩ := slInts hp.tagss
  obtain ⟨m2, hm2⟩ : ∃ m2, m2 = tags.length := ⟨_, rfl⟩
  rw [← hm2] at hp HP c257 ⊢
  clear hm2
  go_enter Try.func82, Try.ntmps82
  go_wp2
  have hB2 : Below w.heap.size w ((w.alloc (.cells A 61)).alloc (.cells #[.slice none 0 0, .slice none 0 0] 42)) := ((Below.refl _ _).alloc (Nat.le_refl _) _).alloc (by simp) _
  obtain ⟨S, hS⟩ : ∃ S, S = w.heap.size := ⟨_, rfl⟩
  obtain ⟨w2, hw2⟩ : ∃ w2, w2 = (w.alloc (.cells A 61)).alloc (.cells #[.slice none 0 0, .slice none 0 0] 42) := ⟨_, rfl⟩
  have hz2 : S + 1 < w2.heap.size := by rw [hw2, hS]; simp
  have hy2 : S < w2.heap.size := by omega
  have hxn : w2.cell? ⟨S, 256, none⟩ = some (.slice (some ⟨b, off, none⟩) next.length cap) := by
    rw [hS, hw2, World.cell?_alloc_past _ _ _ (by simp), World.cell?_alloc_new]; exact c256
  have hxo : Hid (∀ c, c < 256 → w2.cell? ⟨S, c, none⟩ = some (.int .u8 (of.getD c 0))) := Lib.hid (fun c hc => by
    rw [hS, hw2, World.cell?_alloc_past _ _ _ (by simp), World.cell?_alloc_new]; exact HP.out.of_at c hc)
  have hxr : Hid (w2.cell? ⟨S + 1, 0, none⟩ = some (.slice none 0 0) ∧ w2.cell? ⟨S + 1, 1, none⟩ = some (.slice none 0 0) ∧ w2.frozen? ⟨S + 1, 0, none⟩ = false ∧ w2.frozen? ⟨S + 1, 1, none⟩ = false) := Lib.hid (by
    refine ⟨?_, ?_, ?_, ?_⟩
    · rw [hS, hw2, World.cell?_alloc_at _ _ _ _ (by simp)]; rfl
    · rw [hS, hw2, World.cell?_alloc_at _ _ _ _ (by simp)]; rfl
    · rw [hS, hw2, World.frozen?_alloc_at _ _ _ _ (by simp)]
    · rw [hS, hw2, World.frozen?_alloc_at _ _ _ _ (by simp)])
  rw [← hw2] at hB2
  have hO2 : w.heap.size + 1 + 1 = w2.heap.size := by rw [hw2]; simp
  have HB2 := Lib.hid hB2; clear hB2
  obtain ⟨O, hO⟩ : ∃ O, O = w2.heap.size := ⟨_, rfl⟩
  rw [← hO] at hz2 hy2 hO2
  have hB3 : Below O w2 (w2.alloc (.cells #[.slice none 0 0, .slice ao2 m2 cp2] 42)) := by rw [hO]; exact (Below.refl _ _).alloc (Nat.le_refl _) _
  have hO0 : (w2.alloc (.cells #[.slice none 0 0, .slice ao2 m2 cp2] 42)).heap[O]? = some (.cells #[.slice none 0 0, .slice ao2 m2 cp2] 42 (0, 0)) := by rw [hO]; exact heap_alloc_new _ _
  rw [← hw2, hO2, ← hS]
  clear hw2 hO2
  obtain ⟨W3, hW3⟩ : ∃ W3, W3 = w2.alloc (.cells #[.slice none 0 0, .slice ao2 m2 cp2] 42) := ⟨_, rfl⟩
  rw [← hW3] at hB3 hO0 ⊢
  have hsz3 : W3.heap.size = O + 1 := by rw [hW3, hO]; simp
  have Hsz3 := Lib.hid hsz3
  clear hsz3 hW3
  have HS3 := Lib.hid hS; clear hS
  have HO3 := Lib.hid hO; clear hO
  go_loopw [4, 5, 6] (fun i _ _ wr => ∃ (k : Nat) (v : Value), k ≤ next.length ∧ i = .int .i64 k ∧ Below O w2 wr ∧ O < wr.heap.size ∧ wr.heap[O]? = some (.cells #[v, .slice ao2 m2 cp2] 42 (0, 0)) ∧ Own wr (O + 1) 142 256 v ((Wd.rows of next k).map Wd.rowV)) (fun i _ _ _ => next.length - (intOf i).toNat)
  case atStart => exact ⟨0, _, by omega, rfl, hB3, by rw [Hsz3.out]; omega, hO0, by rw [Wd.rows_zero]; exact Own.nil _ _ _ _⟩
  case round =>
    clear hB3 hO0
    obtain ⟨k, v, hk, rfl, hBr, hOs, hOb, hown⟩ := hrel
    have hxw : wr.cell? ⟨S, 256, none⟩ = some (.slice (some ⟨b, off, none⟩) next.length cap) := by rw [hBr.cell (p := ⟨S, 256, none⟩) hy2]; exact hxn
    by_cases hlt : k < next.length
    · obtain ⟨vk, hvk, hsk⟩ := N4.out k hlt
      obtain ⟨ak, bk, ok, capk, rfl, r1, r2, r3, r4, r5⟩ := slInts hsk
      have hrg := HG.out.rows k hlt
      have hwd := HG.out.w0
      obtain ⟨rfl, hbk⟩ := r3 (by have := hrg.2.1; omega)
      have hbS : b < O := by have := HS3.out; omega
      have hbkS : bk < O := by have := HS3.out; omega
      have hnk : wr.cell? ⟨b, off + k, none⟩ = some (.slice (some ⟨bk, ok, none⟩) (next.getD k []).length capk) := (hBr.cell (p := ⟨b, off + k, none⟩) hbS).trans (bkeep HB2.out hvk)
      have HR4 : Hid (∀ c, c < (next.getD k []).length → w2.cell? ⟨bk, ok + c, none⟩ = some (.int .i64 ((next.getD k []).getD c 0))) := Lib.hid (fun c hc => bkeep HB2.out (r4 c hc))
      clear r2
      have HRG := Lib.hid hrg; clear hrg hwd
      clear hvk hsk r3 r4 r5
      generalize hrw : next.getD k [] = row at *
      have Hrw := Lib.hid hrw; clear hrw
      have HBr := Lib.hid hBr; clear hBr
      have HOb := Lib.hid hOb; clear hOb
      have HOwn := Lib.hid hown; clear hown
      go_wp2
      obtain ⟨g, hg⟩ : ∃ g, g = wr.heap.size := ⟨_, rfl⟩
      have hg0 : (wr.alloc (.cells Try.zeroCells142 142)).heap[g]? = some (.cells (Wd.part of row 0) 142 (0, 0)) := by
        rw [hg, heap_alloc_new, Wd.part_zero]
      have hgB : Below g wr (wr.alloc (.cells Try.zeroCells142 142)) := by rw [hg]; exact (Below.refl _ _).alloc (Nat.le_refl _) _
      have hgs : (wr.alloc (.cells Try.zeroCells142 142)).heap.size = g + 1 := by rw [hg]; simp
      rw [← hg]
      obtain ⟨W5, hW5⟩ : ∃ W5, W5 = wr.alloc (.cells Try.zeroCells142 142) := ⟨_, rfl⟩
      rw [← hW5] at hg0 hgB hgs ⊢
      have hOg : O < g := by omega
      have HNK := Lib.hid hnk
      have HXW := Lib.hid hxw
      clear hW5 hnk hxw
      have HGG := Lib.hid hg; clear hg
      obtain ⟨wo, rfl⟩ : ∃ wo : World, wo = wr := ⟨_, rfl⟩
      go_loopw [6] (fun i ww => ∃ c : Nat, c ≤ 256 ∧ i = .int .i64 c ∧ Below g wo ww ∧ Hid (ww.heap.size = g + 1) ∧ Hid (ww.heap[g]? = some (.cells (Wd.part of row c) 142 (0, 0)))) (fun i _ => 256 - (intOf i).toNat)
      case atStart => exact ⟨0, by omega, rfl, hgB, Lib.hid hgs, Lib.hid hg0⟩
      case round =>
        clear hgB hgs hg0
        obtain ⟨c, hc, rfl, hBg, hsg, hbg⟩ := hrel
        have HBg := Lib.hid hBg; clear hBg
        by_cases hcl : c < 256
        · obtain ⟨m, hm⟩ := Int.eq_ofNat_of_zero_le (HP.out.of_wf c hcl).1
          have hmw : m < row.length := by
            have h1 := HG.out.cols c hcl
            have h2 := HRG.out.2.1
            omega
          have hx1 : wr.cell? ⟨S, c, none⟩ = some (.int .u8 (m : Int)) := by
            rw [HBg.out.cell (p := ⟨S, c, none⟩) (show S < g by omega), HBr.out.cell (p := ⟨S, c, none⟩) hy2, hxo.out c hcl, hm]
          have hx2 : wr.cell? ⟨bk, ok + m, none⟩ = some (.int .i64 (row.getD m 0)) := by
            rw [HBg.out.cell (p := ⟨bk, ok + m, none⟩) (show bk < g by omega), HBr.out.cell (p := ⟨bk, ok + m, none⟩) hbkS, HR4.out m hmw]
          have hxb := HRG.out.2.2 m (by have := HRG.out.2.1; omega)
          have hst := Lib.hid (Wd.part_step of row c hcl)
          rw [hm, Int.toNat_natCast] at hst
          have Hm := Lib.hid hm; clear hm
          generalize row.getD m 0 = x at *
          obtain ⟨hxb0, hxb1⟩ := hxb
          have hnk : wr.cell? ⟨b, off + k, none⟩ = some (.slice (some ⟨bk, ok, none⟩) row.length capk) := by rw [HBg.out.cell (p := ⟨b, off + k, none⟩) (show b < g by omega)]; exact HNK.out
          have hxw : wr.cell? ⟨S, 256, none⟩ = some (.slice (some ⟨b, off, none⟩) next.length cap) := by rw [HBg.out.cell (p := ⟨S, 256, none⟩) (show S < g by omega)]; exact HXW.out
          have hd1 : wr.cell? ⟨g, c, none⟩ = some (.int .i16 0) := by rw [cell_of_row wr g c _ _ _ hbg.out]; exact Wd.part_get of row c hcl
          have hd2 : wr.frozen? ⟨g, c, none⟩ = false := frozen_of_row wr g c _ _ hbg.out
          go_wp2
          go_still_tail 14, (by kernel_rfl)
          change wpList _ _ _ _ _ wr.drew
          have hbgD : wr.drew.heap[g]? = some (.cells (Wd.part of row c) 142 (0, 0)) := hbg.out
          have hBD : Below g wo wr.drew := HBg.out.drew
          have hsD : wr.drew.heap.size = g + 1 := hsg.out
          have hd1D : wr.drew.cell? ⟨g, c, none⟩ = some (.int .i16 0) := hd1
          have hd2D : wr.drew.frozen? ⟨g, c, none⟩ = false := hd2
          generalize wr.drew = wd at *
          have HbgD := Lib.hid hbgD; have HBD := Lib.hid hBD; have HsD := Lib.hid hsD
          clear hbgD hBD hsD
          go_wp2
          go_roundw
          case rel => exact ⟨c + 1, by omega, by go_num, HBD.out.setCell (Nat.le_refl _) _, Lib.hid (by rw [World.size_setCell]; exact HsD.out), Lib.hid (by rw [heap_setCell_same _ _ _ _ _ _ HbgD.out, hst.out])⟩
          case measure => simp [intOf]; omega
        · obtain rfl : c = 256 := by omega
          have hgw : wr.heap[g]? = some (.cells (Wd.part of row 256) 142 (0, 0)) := hbg.out
          have hOw : wr.heap[O]? = some (.cells #[v, .slice ao2 m2 cp2] 42 (0, 0)) := by rw [HBg.out.block O hOg]; exact HOb.out
          have hOwnW : Own wr (O + 1) 142 256 v ((Wd.rows of next k).map Wd.rowV) := HOwn.out.below HBg.out (fun q hq => by have := (HOwn.out.lt q hq).2; have := HGG.out; omega)
          have hv0 : wr.cell? ⟨O, 0, none⟩ = some v := by rw [cell_of_row wr O 0 _ _ _ hOw]; rfl
          have hpsz := Wd.part_size of row 256 (Nat.le_refl _)
          have hpi : Hid ((Try.prog.info? 142).map (·.size) = some (Wd.part of row 256).size) := Lib.hid (by rw [hpsz]; kernel_rfl)
          have HGW := Lib.hid hgw; clear hgw
          have HOW2 := Lib.hid hOw; clear hOw
          have hWs : O + 1 ≤ wr.heap.size := by have := hsg.out; omega
          have HPS := Lib.hid hpsz; clear hpsz
          have HBX := Lib.hid (HBr.out.trans (HBg.out.mono (Nat.le_of_lt hOg)))
          have hOl : O ≤ wr.heap.size := by omega
          have hOl2 : O ≤ (wr.alloc (.cells (Wd.part of row 256) 142)).heap.size := by rw [World.size_alloc]; omega
          have hOo : ∀ q, v.ownBlock = some q → O ≤ q := fun q hq => by have := (HOwn.out.lt q hq).1; omega
          go_wp2_with (first
            | (refine wpList_load_row rfl 142 (.tmp 5) rfl g rfl 142 (Wd.part of row 256) (0, 0) _ HGW.out Try.underlying142 rfl hpi.out ?_)
            | (refine buildOne rowE rfl (.tmp 37) rfl (Wd.part of row 256) rfl HPS.out (by decide) ?_)
            | (at_builtin; refine app1 (v := v) rowE rfl (.tmp 36) (.tmp 38) rfl (O + 1) ((Wd.rows of next k).map Wd.rowV) rfl (hOwnW.alloc _) (.agg (Wd.part of row 256)) _ 1 rfl (fun j q hq => cells_lit _ _ j q hq) (by rw [← Array.length_toList] at HPS; exact HPS.out) (Wd.part_one of row) (by simp [Wd.rows_len]; omega) (by simp [Wd.rows_len]; unfold maxLen; omega) (by simp; omega) ?_; intro g7 n7 c7 w7 hown7 hgr7 hg7 hg7'; have hgr8 : World.grownBy _ w7 v.ownBlock := hgr7; have hO7 : w7.heap[O]? = some (.cells #[v, .slice ao2 m2 cp2] 42 (0, 0)) := (by rw [hgr8.block O (by simp; omega) (fun e => by have := (HOwn.out.lt O e.symm).1; omega), Below.heap_alloc _ _ O (by omega)]; exact HOW2.out); have hc7 : w7.cell? ⟨O, 0, none⟩ = some v := (by rw [cell_of_row w7 O 0 _ _ _ hO7]; rfl); have hf7 : w7.frozen? ⟨O, 0, none⟩ = false := frozen_of_row w7 O 0 _ _ hO7; have hB7 : Below O w2 w7 := ((HBX.out.alloc hOl (.cells (Wd.part of row 256) 142)).grown hgr8 hOl2 hOo); have HO7 := Lib.hid hO7; have HB7 := Lib.hid hB7; have HW7 := Lib.hid hown7; clear hgr8 hgr7 hO7 hB7 hown7))
          go_roundw
          case rel =>
            refine ⟨k + 1, .slice (some ⟨g7, 0, none⟩) n7 c7, by omega, by go_num, HB7.out.setCell (Nat.le_refl _) _, by rw [World.size_setCell]; omega, by rw [heap_setCell_same _ _ _ _ _ _ HO7.out]; rfl, ?_⟩
            rw [Wd.rows_succ, Hrw.out, List.map_append, List.map_cons, List.map_nil, Wd.rowV, ← Wd.part_end]
            exact ownsRow_setCell_below HW7.out (Nat.lt_succ_self _) _
          case measure => simp [intOf]; omega
    · obtain rfl : k = next.length := by omega
      obtain ⟨av, nv, cv, rfl⟩ := hown.isSlice
      have hc0 : wr.cell? ⟨O, 0, none⟩ = some (.slice av nv cv) := by rw [cell_of_row wr O 0 _ _ _ hOb]; rfl
      have hc1 : wr.cell? ⟨O, 1, none⟩ = some (.slice ao2 m2 cp2) := by rw [cell_of_row wr O 1 _ _ _ hOb]; rfl
      have hr0 : wr.cell? ⟨S + 1, 0, none⟩ = some (.slice none 0 0) := by rw [hBr.cell (p := ⟨S + 1, 0, none⟩) hz2]; exact hxr.out.1
      have hr1 : wr.cell? ⟨S + 1, 1, none⟩ = some (.slice none 0 0) := by rw [hBr.cell (p := ⟨S + 1, 1, none⟩) hz2]; exact hxr.out.2.1
      have hf0 : wr.frozen? ⟨S + 1, 0, none⟩ = false := by rw [World.frozen?_of_block (w := w2) (hBr.block (S + 1) hz2)]; exact hxr.out.2.2.1
      have hf1 : wr.frozen? ⟨S + 1, 1, none⟩ = false := by rw [World.frozen?_of_block (w := w2) (hBr.block (S + 1) hz2)]; exact hxr.out.2.2.2
      have HBr := Lib.hid hBr
      have HOb := Lib.hid hOb
      have HOwn := Lib.hid hown
      clear hBr hOb hown
      go_wp2

      refine bodyPost_ret (v := .agg #[.slice av nv cv, .slice ao2 m2 cp2]) (by simp [results, Try.results82, go_sem, hr0, hr1]) rfl ⟨.slice av nv cv, rfl, ?_, ?_⟩
      · refine Own.mono (B := O + 1) ?_ (by have := HS3.out; omega)
        exact ownsRow_setCell_below (ownsRow_setCell_below HOwn.out (by show S + 1 < O + 1; omega) _) (by show S + 1 < O + 1; omega) _
      · have h9 : Below w.heap.size w wr := HB2.out.trans (HBr.out.mono (by have := HS3.out; omega))
        exact (h9.setCell (by show w.heap.size ≤ S + 1; have := HS3.out; omega) _).setCell (by show w.heap.size ≤ S + 1; have := HS3.out; omega) _
end Go.Proofs.Ytahoapgmiecphaa

/-
  A right packed automaton, read; one token of package lexer: what it computes.
-/
namespace Go.Proofs.Ytahoapgmiecphaa
set_option linter.unusedVariables false
open Go.ChangeShapes Go.WideShapes Go.ChangeAt Go.RowKit

theorem packed_open {w : World} {A : Array Value} {of : List Int} {next : List (List Int)} {tags : List Int} {vn vt : Value} (hp : PackedAt w A of next tags vn vt) (hg : Pkd.Good of next tags) :
    ∃ b off cap bt ot capt, vn = .slice (some ⟨b, off, none⟩) next.length cap ∧ vt = .slice (some ⟨bt, ot, none⟩) tags.length capt ∧ b < w.heap.size ∧ bt < w.heap.size ∧
      (∀ q, q < next.length → ∀ c : UInt8, ∃ m bk ok n capk : Nat, A[c.toNat]? = some (.int .u8 (m : Int)) ∧ m < n ∧ n ≤ 256 ∧ bk < w.heap.size ∧ w.cell? ⟨b, off + q, none⟩ = some (.slice (some ⟨bk, ok, none⟩) n capk) ∧
        w.cell? ⟨bk, ok + m, none⟩ = some (.int .i64 (Lx.nx of next q c)) ∧ -1 ≤ Lx.nx of next q c ∧ Lx.nx of next q c < next.length) ∧
      (∀ q, q < next.length → w.cell? ⟨bt, ot + q, none⟩ = some (.int .i64 (Lx.tg tags q)) ∧ -1 ≤ Lx.tg tags q ∧ Lx.tg tags q ≤ 19) := by
  obtain ⟨ao, b, off, cap, rfl, n1, n2, n3, n4⟩ := slSls hp.nexts
  obtain ⟨at0, bt, ot, capt, rfl, t1, t2, t3, t4, t5⟩ := slInts hp.tagss
  have hn0 := hg.n0
  obtain ⟨rfl, hb⟩ := n3 (by omega)
  obtain ⟨rfl, hbt⟩ := t3 (by have := hg.tl; omega)
  refine ⟨b, off, cap, bt, ot, capt, rfl, rfl, hb, hbt, fun q hq c => ?_, fun q hq => ?_⟩
  · have hc := c.toNat_lt
    obtain ⟨vi, hv, hs⟩ := n4 q hq
    obtain ⟨ak, bk, ok, capk, rfl, r1, r2, r3, r4, r5⟩ := slInts hs
    obtain ⟨h1, h2⟩ := hg.rows q hq
    obtain ⟨m, hm⟩ := Int.eq_ofNat_of_zero_le (hp.of_wf c.toNat (by omega)).1
    have hmw := hg.cols c.toNat (by omega)
    have hl := h2.1
    have hml : m < (next.getD q []).length := by rw [hl]; omega
    obtain ⟨rfl, hbk⟩ := r3 (by omega)
    have hnx : Lx.nx of next q c = (next.getD q []).getD m 0 := by unfold Lx.nx; rw [hm, Int.toNat_natCast]
    have hr := h2.2 m (by rw [← hl]; exact hml)
    refine ⟨m, bk, ok, _, capk, by rw [← hm]; exact hp.of_at c.toNat (by omega), hml, by rw [hl]; exact hg.w1, hbk, hv, by rw [hnx]; exact r4 m hml, ?_, ?_⟩
    · rw [hnx]; exact hr.1
    · rw [hnx]; exact hr.2
  · have htg : Lx.tg tags q = tags.getD q 0 := by unfold Lx.tg; rw [Int.toNat_natCast]
    have h1 := (hg.rows q hq).1
    unfold Aut.tagGood at h1
    rw [htg]
    exact ⟨t4 q (by have := hg.tl; omega), h1⟩

theorem bytes_drop (s : ByteArray) (k : Nat) (h : k < s.size) : s.data.toList.drop k = s[k] :: s.data.toList.drop (k + 1) := by
  rw [List.drop_eq_getElem_cons (by simpa using h)]; rfl
theorem bytes_end (s : ByteArray) (k : Nat) (h : s.size ≤ k) : s.data.toList.drop k = [] := List.drop_of_length_le (by simpa using h)

namespace Lx
def oneV (x : Int × Int) (f : Int) : Value := if x.2 = 0 then .tuple #[.agg #[.int .i64 0, .int .i64 0, .int .i64 0], .bool false] else .tuple #[.agg #[.int .i64 x.1, .int .i64 f, .int .i64 (f + x.2)], .bool true]
theorem oneV_no {x : Int × Int} {f : Int} (h : x.2 = 0) : oneV x f = .tuple #[.agg #[.int .i64 0, .int .i64 0, .int .i64 0], .bool false] := by rw [oneV, if_pos h]
theorem oneV_yes {x : Int × Int} {f : Int} (h : x.2 ≠ 0) : oneV x f = .tuple #[.agg #[.int .i64 x.1, .int .i64 f, .int .i64 (f + x.2)], .bool true] := by rw [oneV, if_neg h]
end Lx

set_option maxRecDepth 100000 in
theorem one_any (A : Array Value) (of : List Int) (next : List (List Int)) (tags : List Int) (vn vt : Value) (s : ByteArray) (hs : s.size ≤ 140737488355328) (f : Nat) (hf : f ≤ s.size) (w : World) (hp : PackedAt w A of next tags vn vt) (hg : Pkd.Good of next tags) :
    Calls Try.prog 126 #[.agg A, .string s, .int .i64 f] w fun e w' => e = .returned (Lx.oneV (Lx.longest of next tags (s.data.toList.drop f)) f) ∧ Below w.heap.size w w' := by
  have c256 := hp.c256; have c257 := hp.c257; have hA := hp.size
  obtain ⟨b, off, cap, bt, ot, capt, rfl, rfl, hb, hbt, hstep, htag⟩ := packed_open hp hg
  have HS := Lib.hid hstep; have HT := Lib.hid htag
  have hn0 := hg.n0
  have HTL := Lib.hid hg.tl
  clear hstep htag hp hg
  have hst := (St.init w).alloc A 61
  have C256 := Lib.hid c256; have C257 := Lib.hid c257; clear c256 c257
  have HA := Lib.hid hA; clear hA
  generalize hX : Lx.longest of next tags (s.data.toList.drop f) = X
  have HX : Hid (Lx.go of next tags (s.data.toList.drop f) 0 f (0, 0) = Lx.sh f X) := Lib.hid (by
    have := Lx.go_sh (of := of) (next := next) (tags := tags) f (s.data.toList.drop f) 0 0 (by omega) (0, 0)
    rw [Int.zero_add] at this
    rw [← hX]; unfold Lx.longest; exact this)
  have HXI : Hid (0 ≤ X.2 ∧ X.2 + f ≤ s.size) := Lib.hid (by rw [← hX]; have := Lx.longest_in of next tags (s.data.toList.drop f); rw [List.length_drop] at this; simp only [Array.length_toList, ByteArray.size_data] at this; omega)
  clear hX
  go_enter Try.func126, Try.ntmps126
  go_wp2
  have hst3 := (hst.alloc #[.int .i64 0, .int .i64 0, .int .i64 0] 172).alloc #[.int .i64 0, .int .i64 f, .int .i64 0] 172
  simp only [World.size_alloc] at hst3
  clear hst
  generalize ((w.alloc (.cells A 61)).alloc (.cells #[.int .i64 0, .int .i64 0, .int .i64 0] 172)).alloc (.cells #[.int .i64 0, .int .i64 f, .int .i64 0] 172) = W at hst3 ⊢
  go_loopw [8, 10] (fun now i wr => ∃ (k q : Nat) (r t : Int), f ≤ k ∧ k ≤ s.size ∧ i = .int .i64 k ∧ now = .int .i64 q ∧ q < next.length ∧ St w wr [aCel (w.heap.size + 1 + 1) 172 #[.int .i64 r, .int .i64 f, .int .i64 t], aCel (w.heap.size + 1) 172 #[.int .i64 0, .int .i64 0, .int .i64 0], aCel w.heap.size 61 A] ∧ Hid (Lx.go of next tags (s.data.toList.drop k) q k (r, t) = Lx.sh f X)) (fun _ i _ => s.size - (intOf i).toNat)
  case atStart => exact ⟨f, 0, 0, 0, Nat.le_refl _, hf, rfl, rfl, by omega, hst3, HX⟩
  case round =>
    clear hst3 HX
    obtain ⟨k, q, r, t, hfk, hk, rfl, rfl, hq, hst, hgo⟩ := hrel
    by_cases hlt : k < s.size
    · obtain ⟨m, bk, ok, n, capk, a1, a2, a3, a4, a5, a6, a7, a8⟩ := HS.out q hq s[k]
      have c1 := hst.get3.celAt C256.out
      have c2 := hst.get3.celAt a1
      have c3 := (hst.bel.cell (p := ⟨b, off + q, none⟩) hb).trans a5
      have c4 := (hst.bel.cell (p := ⟨bk, ok + m, none⟩) a4).trans a6
      have hgo2 := hgo.out
      rw [bytes_drop s k hlt] at hgo2
      have HST := Lib.hid hst
      have hc := s[k].toNat_lt
      have hc2 : (s[k].toNat : Int) < 256 := by omega
      have hc3 : (0 : Int) ≤ (s[k].toNat : Int) := by omega
      generalize hy : Lx.nx of next q s[k] = y at *
      have HY := Lib.hid hy
      clear hst a1 a5 a6 hy hgo
      have HG := Lib.hid hgo2; clear hgo2
      by_cases hneg : y < 0
      · have he := HG.out
        rw [Lx.go_stop (by rw [HY.out]; exact hneg)] at he
        go_wp2
        go_still_tail 13, (by kernel_rfl)
        change wpList _ _ _ _ _ wr.drew
        have d1 : wr.drew.cell? ⟨w.heap.size, 256, none⟩ = _ := c1
        have d2 : wr.drew.cell? ⟨w.heap.size, s[k].toNat, none⟩ = _ := c2
        have d3 : wr.drew.cell? ⟨b, off + q, none⟩ = _ := c3
        have d4 : wr.drew.cell? ⟨bk, ok + m, none⟩ = _ := c4
        have HD := Lib.hid HST.out.drew
        generalize wr.drew = wd at *
        clear c1 c2 c3 c4
        by_cases hx : X.2 = 0
        · have HV := Lib.hid (Lx.oneV_no (f := f) hx)
          obtain ⟨rfl, rfl⟩ : r = X.1 ∧ t = 0 := by simpa [Lx.sh, hx] using he
          obtain ⟨e0, e1, e2, ef0, ef1, ef2⟩ := HD.out.cel3
          obtain ⟨r0, r1, r2, rf0, rf1, rf2⟩ := HD.out.get2.cel3
          have hst9 := ((HD.out.get2.setCel 0 (.int .i64 0)).setCel 1 (.int .i64 0)).setCel 2 (.int .i64 0)
          clear he hx
          go_wp2
          have k0 := hst9.celAt (i := 0) (v := .int .i64 0) rfl
          have k1 := hst9.celAt (i := 1) (v := .int .i64 0) rfl
          have k2 := hst9.celAt (i := 2) (v := .int .i64 0) rfl
          exact bodyPost_ret (v := .tuple #[.agg #[.int .i64 0, .int .i64 0, .int .i64 0], .bool false]) (by simp [results, Try.results126, go_sem, k0, k1, k2]) rfl ⟨by rw [HV.out], hst9.bel⟩
        · have HV := Lib.hid (Lx.oneV_yes (f := f) hx)
          obtain ⟨rfl, rfl⟩ : r = X.1 ∧ t = X.2 + f := by simpa [Lx.sh, hx] using he
          have hz : ((X.2 + f : Int) == 0) = false := by rw [beq_eq_false_iff_ne]; have := HXI.out; omega
          have hx0 := HXI.out.1
          have hx1 := HXI.out.2
          obtain ⟨e0, e1, e2, ef0, ef1, ef2⟩ := HD.out.cel3
          obtain ⟨r0, r1, r2, rf0, rf1, rf2⟩ := HD.out.get2.cel3
          have hst9 := ((HD.out.get2.setCel 0 (.int .i64 X.1)).setCel 1 (.int .i64 f)).setCel 2 (.int .i64 (X.2 + f))
          clear he hx
          go_wp2
          have k0 := hst9.celAt (i := 0) (v := .int .i64 X.1) rfl
          have k1 := hst9.celAt (i := 1) (v := .int .i64 f) rfl
          have k2 := hst9.celAt (i := 2) (v := .int .i64 (X.2 + f)) rfl
          exact bodyPost_ret (v := .tuple #[.agg #[.int .i64 X.1, .int .i64 f, .int .i64 (X.2 + f)], .bool true]) (by simp [results, Try.results126, go_sem, k0, k1, k2]) rfl ⟨by rw [HV.out, Int.add_comm], hst9.bel⟩
      · obtain ⟨y, rfl⟩ := Int.eq_ofNat_of_zero_le (show 0 ≤ y by omega)
        obtain ⟨g1, g2, g3⟩ := HT.out y (by omega)
        have g4 := (HST.out.bel.cell (p := ⟨bt, ot + y, none⟩) hbt).trans g1
        have g5 := HST.out.get3.celAt C257.out
        generalize hu : Lx.tg tags y = u at *
        have HU := Lib.hid hu
        clear g1 hu
        have he := HG.out
        have hyt : y < tags.length := by have := HTL.out; omega
        by_cases hu0 : 0 ≤ u
        · rw [Lx.go_hit (by rw [HY.out]; exact hneg) (by rw [HY.out, HU.out]; exact hu0), HY.out, HU.out, Int.toNat_natCast] at he
          have HE := Lib.hid he; clear he HG
          go_wp2
          go_still_tail 13, (by kernel_rfl)
          change wpList _ _ _ _ _ wr.drew
          have d1 : wr.drew.cell? ⟨w.heap.size, 256, none⟩ = _ := c1
          have d2 : wr.drew.cell? ⟨w.heap.size, s[k].toNat, none⟩ = _ := c2
          have d3 : wr.drew.cell? ⟨b, off + q, none⟩ = _ := c3
          have d4 : wr.drew.cell? ⟨bk, ok + m, none⟩ = _ := c4
          have HD := Lib.hid HST.out.drew
          have d5 : wr.drew.cell? ⟨bt, ot + y, none⟩ = _ := g4
          have d6 : wr.drew.cell? ⟨w.heap.size, 257, none⟩ = _ := g5
          obtain ⟨e0, e1, e2, ef0, ef1, ef2⟩ := HST.out.drew.cel3
          generalize wr.drew = wd at *
          clear c1 c2 c3 c4 g4 g5
          go_wp2
          go_roundw
          case rel => exact ⟨k + 1, y, u, k + 1, by omega, by omega, by go_num, rfl, by omega, (HD.out.setCel 0 _).setCel 2 _, by simpa using HE⟩
          case measure => simp [intOf]; omega
        · rw [Lx.go_miss (by rw [HY.out]; exact hneg) (by rw [HY.out, HU.out]; exact hu0), HY.out, Int.toNat_natCast] at he
          have HE := Lib.hid he; clear he HG
          go_wp2
          go_still_tail 13, (by kernel_rfl)
          change wpList _ _ _ _ _ wr.drew
          have d1 : wr.drew.cell? ⟨w.heap.size, 256, none⟩ = _ := c1
          have d2 : wr.drew.cell? ⟨w.heap.size, s[k].toNat, none⟩ = _ := c2
          have d3 : wr.drew.cell? ⟨b, off + q, none⟩ = _ := c3
          have d4 : wr.drew.cell? ⟨bk, ok + m, none⟩ = _ := c4
          have HD := Lib.hid HST.out.drew
          have d5 : wr.drew.cell? ⟨bt, ot + y, none⟩ = _ := g4
          have d6 : wr.drew.cell? ⟨w.heap.size, 257, none⟩ = _ := g5
          generalize wr.drew = wd at *
          clear c1 c2 c3 c4 g4 g5
          go_wp2
          go_roundw
          case rel => exact ⟨k + 1, y, r, t, by omega, by omega, by go_num, rfl, by omega, HD.out, by simpa using HE⟩
          case measure => simp [intOf]; omega
    · have he := hgo.out
      rw [bytes_end s k (by omega), Lx.go_nil] at he
      have HST0 := Lib.hid hst
      clear hgo hst
      by_cases hx : X.2 = 0
      · have HV := Lib.hid (Lx.oneV_no (f := f) hx)
        obtain ⟨rfl, rfl⟩ : r = X.1 ∧ t = 0 := by simpa [Lx.sh, hx] using he
        obtain ⟨e0, e1, e2, ef0, ef1, ef2⟩ := HST0.out.cel3
        obtain ⟨r0, r1, r2, rf0, rf1, rf2⟩ := HST0.out.get2.cel3
        have hst9 := ((HST0.out.get2.setCel 0 (.int .i64 0)).setCel 1 (.int .i64 0)).setCel 2 (.int .i64 0)
        clear he hx
        go_wp2
        have k0 := hst9.celAt (i := 0) (v := .int .i64 0) rfl
        have k1 := hst9.celAt (i := 1) (v := .int .i64 0) rfl
        have k2 := hst9.celAt (i := 2) (v := .int .i64 0) rfl
        exact bodyPost_ret (v := .tuple #[.agg #[.int .i64 0, .int .i64 0, .int .i64 0], .bool false]) (by simp [results, Try.results126, go_sem, k0, k1, k2]) rfl ⟨by rw [HV.out], hst9.bel⟩
      · have HV := Lib.hid (Lx.oneV_yes (f := f) hx)
        obtain ⟨rfl, rfl⟩ : r = X.1 ∧ t = X.2 + f := by simpa [Lx.sh, hx] using he
        have hz : ((X.2 + f : Int) == 0) = false := by rw [beq_eq_false_iff_ne]; have := HXI.out; omega
        have hx0 := HXI.out.1
        have hx1 := HXI.out.2
        obtain ⟨e0, e1, e2, ef0, ef1, ef2⟩ := HST0.out.cel3
        obtain ⟨r0, r1, r2, rf0, rf1, rf2⟩ := HST0.out.get2.cel3
        have hst9 := ((HST0.out.get2.setCel 0 (.int .i64 X.1)).setCel 1 (.int .i64 f)).setCel 2 (.int .i64 (X.2 + f))
        clear he hx
        go_wp2
        have k0 := hst9.celAt (i := 0) (v := .int .i64 X.1) rfl
        have k1 := hst9.celAt (i := 1) (v := .int .i64 f) rfl
        have k2 := hst9.celAt (i := 2) (v := .int .i64 (X.2 + f)) rfl
        exact bodyPost_ret (v := .tuple #[.agg #[.int .i64 X.1, .int .i64 f, .int .i64 (X.2 + f)], .bool true]) (by simp [results, Try.results126, go_sem, k0, k1, k2]) rfl ⟨by rw [HV.out, Int.add_comm], hst9.bel⟩
end Go.Proofs.Ytahoapgmiecphaa

/-
  Longest of the reference: what it computes.
-/
namespace Go.Proofs.Ytahoapgmiecphaa
set_option linter.unusedVariables false
open Go.ChangeShapes Go.WideShapes Go.ChangeAt Go.RowKit

namespace Lx
theorem row_nx (of : List Int) (next : List (List Int)) (q : Nat) (hq : q < next.length) (c : UInt8) : ((Wd.rows of next next.length).getD q []).getD c.toNat 0 = nx of next q c := by
  have hc := c.toNat_lt
  have h1 : (Wd.rows of next next.length).getD q [] = Wd.rowOf of (next.getD q []) := by
    unfold Wd.rows
    simp [List.getD, hq]
  rw [h1]
  have h2 := Wd.rowOf_get of (next.getD q []) c.toNat (by omega)
  unfold nx
  rw [← h2]
  simp [List.getD, Wd.rowOf_len, show c.toNat < 256 by omega]
/-- As 'go', from a state that may be none. -/
def goI (of : List Int) (next : List (List Int)) (tags : List Int) (l : List UInt8) (q k : Int) (b : Int × Int) : Int × Int := if q < 0 then b else go of next tags l q.toNat k b
theorem goI_neg {of next tags l q k b} (h : q < 0) : goI of next tags l q k b = b := by rw [goI, if_pos h]
theorem goI_nat {of next tags l k b} {q : Nat} : goI of next tags l q k b = go of next tags l q k b := by rw [goI, if_neg (by omega), Int.toNat_natCast]
theorem tagOf_tg (tags : List Int) (q : Nat) : Aut.tagOf tags q = tg tags q := by unfold Aut.tagOf tg; rw [if_neg (by omega)]
end Lx

set_option maxRecDepth 100000 in
set_option maxHeartbeats 4000000 in
theorem longest_any (v : Value) (of : List Int) (next : List (List Int)) (tags : List Int) (s : ByteArray) (hs : s.size ≤ 140737488355328) (w : World) (hd : DfaAt w v (Wd.rows of next next.length) tags) (hg : Pkd.Good of next tags) (h200 : next.length ≤ 200) :
    Calls Try.prog 129 #[v, .string s] w fun e w' => e = .returned (.tuple #[.int .i64 (Lx.longest of next tags s.data.toList).1, .int .i64 (Lx.longest of next tags s.data.toList).2]) ∧ Below w.heap.size w w' := by
  have HD := Lib.hid hd
  obtain ⟨v0, v1, rfl, hr, ht⟩ := hd
  obtain ⟨a1, n1, k1, rfl⟩ : ∃ a n c, v1 = .slice a n c := by obtain ⟨ao, _, _, cap, h1, _⟩ := ht; exact ⟨_, _, _, h1⟩
  obtain ⟨ao, b, off, cap, rfl, c1, c2, c3, c4, c5⟩ := slRows hr
  unfold maxLen at c2
  have hlen : (Wd.rows of next next.length).length = next.length := Wd.rows_len _ _ _
  have hn0 := hg.n0
  obtain ⟨rfl, hb⟩ := c3 (by omega)
  have HG := Lib.hid hg
  have C4 : Hid (∀ q, q < next.length → ∀ c : UInt8, w.cell? ⟨b, off + q * 256 + c.toNat, none⟩ = some (.int .i16 (Lx.nx of next q c)) ∧ -1 ≤ Lx.nx of next q c ∧ Lx.nx of next q c < next.length) := Lib.hid (fun q hq c => by
    have hc := c.toNat_lt
    have h5 := c5 q (by rw [hlen]; exact hq)
    have h4 := c4 q (by rw [hlen]; exact hq) c.toNat _ (Aut.row_get _ _ (by rw [h5.1]; omega))
    rw [Lx.row_nx of next q hq c] at h4
    have h6 := (hg.rows q hq).2
    have h7 := hg.cols c.toNat (by omega)
    have h9 := hg.w0
    have h8 : -1 ≤ Lx.nx of next q c ∧ Lx.nx of next q c < next.length := by
      unfold Lx.nx
      rcases Nat.lt_or_ge (of.getD c.toNat 0).toNat (Pkd.wide next) with e | e
      · exact h6.2 _ e
      · omega
    exact ⟨h4, h8⟩)
  have HTL := Lib.hid hg.tl
  have HL := Lib.hid hlen
  rw [hlen] at HD c1 ⊢
  clear hr ht c3 c4 c5 hlen hg
  generalize hX : Lx.longest of next tags s.data.toList = X
  have HX : Hid (Lx.goI of next tags (s.data.toList.drop 0) 0 0 (0, 0) = X) := Lib.hid (by rw [← hX, List.drop_zero]; unfold Lx.longest; rfl)
  clear hX
  have hst := (St.init w).alloc #[.slice (some ⟨b, off, none⟩) next.length cap, .slice a1 n1 k1] 42
  go_enter Try.func129, Try.ntmps129
  go_wp2
  generalize (w.alloc (.cells #[.slice (some ⟨b, off, none⟩) next.length cap, .slice a1 n1 k1] 42)) = W at hst ⊢
  go_loopw [4, 5, 6, 7] (fun r t now i wr => ∃ (k : Nat) (q rr tt : Int), k ≤ s.size ∧ i = .int .i64 k ∧ now = .int .i64 q ∧ r = .int .i64 rr ∧ t = .int .i64 tt ∧ -1 ≤ q ∧ q < next.length ∧ St w wr [aCel w.heap.size 42 #[.slice (some ⟨b, off, none⟩) next.length cap, .slice a1 n1 k1]] ∧ Hid (Lx.goI of next tags (s.data.toList.drop k) q k (rr, tt) = X)) (fun _ _ _ i _ => s.size - (intOf i).toNat)
  case atStart => exact ⟨0, 0, 0, 0, by omega, rfl, rfl, rfl, rfl, by omega, by omega, hst, HX⟩
  case round =>
    clear hst HX
    obtain ⟨k, q, rr, tt, hk, rfl, rfl, rfl, rfl, hq0, hq1, hst, hgo⟩ := hrel
    by_cases hlt : k < s.size
    · by_cases hneg : q < 0
      · have he := hgo.out
        rw [Lx.goI_neg hneg] at he
        subst he
        clear hgo
        go_wp2
        go_ret2
        exact ⟨rfl, hst.bel⟩
      · obtain ⟨q, rfl⟩ := Int.eq_ofNat_of_zero_le (show 0 ≤ q by omega)
        have hgo2 := hgo.out
        rw [Lx.goI_nat, bytes_drop s k hlt] at hgo2
        obtain ⟨g1, g2, g3⟩ := C4.out q (by omega) s[k]
        have hc := s[k].toNat_lt
        have hc2 : (s[k].toNat : Int) < 256 := by omega
        have d1 := (hst.bel.cell (p := ⟨b, off + q * 256 + s[k].toNat, none⟩) hb).trans g1
        have d2 := hst.celAt (i := 0) rfl
        have d3 := hst.celAt (i := 1) rfl
        generalize hy : Lx.nx of next q s[k] = y at *
        have HY := Lib.hid hy; clear hy g1 hgo
        have hyb1 : -32768 ≤ y := by omega
        have hyb2 : y ≤ 32767 := by omega
        have HGO := Lib.hid hgo2; clear hgo2
        have hstD := Lib.hid hst
        clear hst
        go_wp2
        have hwr : IntKind.i64.wrap y = y := IntWalk.i64_in _ ⟨by omega, by omega⟩
        go_still_tail 10, (by kernel_rfl)
        change wpList _ _ _ _ _ wr.drew
        have e1 : wr.drew.cell? ⟨b, off + q * 256 + s[k].toNat, none⟩ = _ := d1
        have e2 : wr.drew.cell? ⟨w.heap.size, 0, none⟩ = _ := d2
        have e3 : wr.drew.cell? ⟨w.heap.size, 1, none⟩ = _ := d3
        have hst := hstD.out.drew
        generalize wr.drew = wd at *
        clear d1 d2 d3 hstD hwr
        have hyt : y < tags.length := by have := HTL.out; omega
        go_wp2_with (fail)
        go_at_call 151
        refine (rtagOf_any _ (Wd.rows of next next.length) tags y _ (HD.out.below hst.bel) hyt).mono ?_
        rintro e w3 ⟨rfl, hb3⟩
        replace hst := hst.call hb3
        clear hb3 e1 e2 e3
        have e2 := hst.celAt (i := 0) rfl
        have e3 := hst.celAt (i := 1) rfl
        by_cases hyn : y < 0
        · have ht : Aut.tagOf tags y = -1 := by unfold Aut.tagOf; rw [if_pos hyn]
          rw [ht]
          have hgo2 := HGO.out
          rw [Lx.go_stop (by rw [HY.out]; exact hyn)] at hgo2
          clear ht
          have HGO2 := Lib.hid hgo2; clear hgo2
          go_wp2
          go_roundw
          case rel => exact ⟨k + 1, y, rr, tt, by omega, by go_num, rfl, rfl, rfl, by omega, by omega, hst, Lib.hid (by rw [Lx.goI_neg hyn]; exact HGO2.out)⟩
          case measure => simp [intOf]; omega
        · obtain ⟨y, rfl⟩ := Int.eq_ofNat_of_zero_le (show 0 ≤ y by omega)
          rw [Lx.tagOf_tg]
          generalize hu : Lx.tg tags y = u
          have HU := Lib.hid hu; clear hu
          have hgo2 := HGO.out
          by_cases hu0 : 0 ≤ u
          · rw [Lx.go_hit (by rw [HY.out]; omega) (by rw [HY.out, HU.out]; exact hu0), HY.out, HU.out, Int.toNat_natCast] at hgo2
            have HGO2 := Lib.hid hgo2; clear hgo2
            go_wp2_with (fail)
            go_at_call 151
            refine (rtagOf_any _ (Wd.rows of next next.length) tags y _ (HD.out.below hst.bel) hyt).mono ?_
            rintro e w4 ⟨rfl, hb4⟩
            replace hst := hst.call hb4
            rw [Lx.tagOf_tg, HU.out]
            clear hb4 e2 e3
            go_wp2
            go_roundw
            case rel => exact ⟨k + 1, y, u, k + 1, by omega, by go_num, rfl, rfl, by go_num, by omega, by omega, hst, Lib.hid (by rw [Lx.goI_nat]; simpa using HGO2.out)⟩
            case measure => simp [intOf]; omega
          · rw [Lx.go_miss (by rw [HY.out]; omega) (by rw [HY.out, HU.out]; exact hu0), HY.out, Int.toNat_natCast] at hgo2
            have HGO2 := Lib.hid hgo2; clear hgo2
            go_wp2
            go_roundw
            case rel => exact ⟨k + 1, y, rr, tt, by omega, by go_num, rfl, rfl, rfl, by omega, by omega, hst, Lib.hid (by rw [Lx.goI_nat]; simpa using HGO2.out)⟩
            case measure => simp [intOf]; omega
    · have he := hgo.out
      rw [bytes_end s k (by omega)] at he
      have he2 : (rr, tt) = X := by rw [← he]; unfold Lx.goI; split; (· rfl); (· rw [Lx.go_nil])
      subst he2
      clear hgo he
      go_wp2
      go_ret2
      exact ⟨rfl, hst.bel⟩
end Go.Proofs.Ytahoapgmiecphaa

/-
  Tokens of the reference: what it computes.
-/
namespace Go.Proofs.Ytahoapgmiecphaa
set_option linter.unusedVariables false
open Go.ChangeShapes Go.WideShapes Go.ChangeAt Go.RowKit

def tokV (x : Int × Int × Int) : Value := .agg #[.int .i64 x.1, .int .i64 x.2.1, .int .i64 x.2.2]
theorem tok_one (x : Int × Int × Int) : ∀ q ∈ (tokV x).cells.toList, q.oneCell' = true := by
  intro q hq; simp [tokV, Value.cells] at hq; rcases hq with rfl | rfl | rfl <;> rfl
theorem tokE : ET Try.prog 165 172 3 24 := ET.mk' Try.underlying165 (z := .agg #[.int .i64 0, .int .i64 0, .int .i64 0]) (by kernel_rfl) rfl (by decide)

namespace Lx
def RetTok (x : List (Int × Int × Int) × Int) (w : World) (e : Ending) (w' : World) : Prop := ∃ v, e = .returned (.tuple #[v, .int .i64 x.2]) ∧ Own w' w.heap.size 172 3 v (x.1.map tokV) ∧ Below w.heap.size w w'
end Lx

set_option maxRecDepth 100000 in
set_option maxHeartbeats 4000000 in
theorem tokens_any (v : Value) (of : List Int) (next : List (List Int)) (tags : List Int) (s : ByteArray) (hs : s.size ≤ 2000) (w : World) (hd : DfaAt w v (Wd.rows of next next.length) tags) (hg : Pkd.Good of next tags) (h200 : next.length ≤ 200) :
    Calls Try.prog 81 #[v, .string s] w (Lx.RetTok (Lx.toks of next tags s.size s.data.toList 0 []) w) := by
  have HD := Lib.hid hd
  have HLO : Hid (∀ (t : ByteArray) (w' : World), t.size ≤ 140737488355328 → DfaAt w' v (Wd.rows of next next.length) tags → Calls Try.prog 129 #[v, .string t] w' fun e w'' => e = .returned (.tuple #[.int .i64 (Lx.longest of next tags t.data.toList).1, .int .i64 (Lx.longest of next tags t.data.toList).2]) ∧ Below w'.heap.size w' w'') :=
    Lib.hid (fun t w' ht h => longest_any v of next tags t ht w' h hg h200)
  obtain ⟨v0, v1, rfl, hr, ht⟩ := hd
  obtain ⟨a0, n0, k0, rfl⟩ : ∃ a n c, v0 = .slice a n c := by obtain ⟨ao, _, _, cap, h1, _⟩ := hr; exact ⟨_, _, _, h1⟩
  obtain ⟨a1, n1, k1, rfl⟩ : ∃ a n c, v1 = .slice a n c := by obtain ⟨ao, _, _, cap, h1, _⟩ := ht; exact ⟨_, _, _, h1⟩
  clear hr ht hg
  generalize hX : Lx.toks of next tags s.size s.data.toList 0 [] = X
  have HX : Hid (Lx.toks of next tags s.size (s.data.toList.drop 0) 0 [] = X) := Lib.hid (by rw [← hX, List.drop_zero])
  clear hX
  have hst := ((St.init w).alloc #[.slice a0 n0 k0, .slice a1 n1 k1] 42).nilOwn 172 3
  go_enter Try.func81, Try.ntmps81
  go_wp2
  generalize w.alloc (.cells #[.slice a0 n0 k0, .slice a1 n1 k1] 42) = W at hst ⊢
  go_loopw [6, 7] (fun o i wr => ∃ (k n : Nat) (out : List (Int × Int × Int)), k ≤ s.size ∧ s.size ≤ k + n ∧ out.length ≤ k ∧ i = .int .i64 k ∧ St w wr [aOwn 172 3 o (out.map tokV), aCel w.heap.size 42 #[.slice a0 n0 k0, .slice a1 n1 k1]] ∧ Hid (Lx.toks of next tags n (s.data.toList.drop k) k out = X)) (fun _ i _ => s.size - (intOf i).toNat)
  case atStart => exact ⟨0, s.size, [], by omega, by omega, by simp, rfl, hst, HX⟩
  case round =>
    clear hst HX
    obtain ⟨k, n, out, hk, hkn, hol, rfl, hst, htk⟩ := hrel
    by_cases hlt : k < s.size
    · have d1 := hst.get2.celAt (i := 0) rfl
      have d2 := hst.get2.celAt (i := 1) rfl
      obtain ⟨m, rfl⟩ : ∃ m, n = m + 1 := ⟨n - 1, by omega⟩
      have hne : s.data.toList.drop k ≠ [] := by rw [bytes_drop s k hlt]; simp
      have htk2 := htk.out
      clear htk
      have hsl : (s.extract k s.size).data.toList = s.data.toList.drop k := Lib.extract_to_end s k
      have hsz : (s.extract k s.size).size ≤ 140737488355328 := by simp [ByteArray.size_extract]; omega
      have hlin := Lx.longest_in of next tags (s.data.toList.drop k)
      rw [List.length_drop] at hlin
      simp only [Array.length_toList, ByteArray.size_data] at hlin
      have HLC : Hid (∀ w', DfaAt w' _ _ _ → _) := Lib.hid (fun w' => HLO.out (s.extract k s.size) w' hsz)
      rw [hsl] at HLC
      generalize hy : Lx.longest of next tags (s.data.toList.drop k) = y at *
      have HY := Lib.hid hy
      have HTK := Lib.hid htk2
      have HNE := Lib.hid hne
      have HST := Lib.hid hst
      clear hy htk2 hne hsl hsz hst
      obtain ⟨y1, y2⟩ := y
      obtain ⟨hl0, hl1⟩ := hlin
      simp only at hl0 hl1
      go_wp2
      have HA : Hid (∀ w', St w w' [aOwn 172 3 u6 (out.map tokV), aCel w.heap.size 42 #[.slice a0 n0 k0, .slice a1 n1 k1]] → w'.cell? ⟨w.heap.size, 0, none⟩ = some (.slice a0 n0 k0) ∧ w'.cell? ⟨w.heap.size, 1, none⟩ = some (.slice a1 n1 k1) ∧ St w w' [aOwn 172 3 u6 (out.map tokV), aCel w.heap.size 42 #[.slice a0 n0 k0, .slice a1 n1 k1]]) := Lib.hid (fun w' h => ⟨h.get2.celAt (i := 0) rfl, h.get2.celAt (i := 1) rfl, h⟩)
      go_region_held3 (fun w' => w'.cell? ⟨w.heap.size, 0, none⟩ = some (.slice a0 n0 k0) ∧ w'.cell? ⟨w.heap.size, 1, none⟩ = some (.slice a1 n1 k1) ∧ St w w' [aOwn 172 3 u6 (out.map tokV), aCel w.heap.size 42 #[.slice a0 n0 k0, .slice a1 n1 k1]]) (first | exact HA.out _ HST.out.drew | exact HA.out _ HST2)
        ((go_at_call 129; have hh := ‹_ ∧ _ ∧ St w _ _›; refine (HLC.out _ (HD.out.below hh.2.2.bel)).mono ?_; rintro e w3 ⟨rfl, hb3⟩; have HST2 := hh.2.2.call hb3; clear hh hb3))
      have hst := (‹_ ∧ _ ∧ St w _ _›).2.2
      clear HST HA d1 d2
      have htk := HTK.out
      by_cases hz : y2 = 0
      · subst hz
        rw [Lx.toks_bad HNE.out (by rw [HY.out])] at htk
        subst htk
        go_wp2
        go_ret2
        exact ⟨_, rfl, hst.own, hst.bel⟩
      · rw [Lx.toks_step HNE.out (by rw [HY.out]; exact hz), HY.out] at htk
        simp only at htk
        have hz1 : ((y2 : Int) == 0) = false := by rw [beq_eq_false_iff_ne]; exact hz
        obtain ⟨y2, rfl⟩ := Int.eq_ofNat_of_zero_le hl0
        have hpos : 0 < y2 := by omega
        rw [Int.toNat_natCast, List.drop_drop] at htk
        have HTK2 := Lib.hid htk
        clear htk hz
        go_wp2_with (at_builtin; refine St.app1n tokE rfl (.tmp 26) (.tmp 33) rfl rfl hst (tokV (y1, (k : Int), (k : Int) + y2)) rfl _ 1 rfl (by simp) rfl (tok_one _) (by rw [List.length_map]; unfold maxLen; omega) (by rw [List.length_map]; omega) ?_; intro g3 n3 cap3 w3 hst3; clear hst)
        go_roundw
        case rel => exact ⟨k + y2, m, out ++ [(y1, (k : Int), (k : Int) + y2)], by omega, by omega, by simp; omega, by go_num, by rw [List.map_append]; exact hst3, by rw [Int.natCast_add]; exact HTK2⟩
        case measure => simp [intOf]; omega
    · have htk2 := htk.out
      rw [bytes_end s k (by omega), Lx.toks_end] at htk2
      subst htk2
      clear htk
      go_wp2
      go_ret2
      exact ⟨_, rfl, hst.own, hst.bel⟩
end Go.Proofs.Ytahoapgmiecphaa

/-
  check, One and Lex of package lexer: what they compute.
-/
namespace Go.Proofs.Ytahoapgmiecphaa
set_option linter.unusedVariables false
open Go.ChangeShapes Go.WideShapes Go.ChangeAt Go.RowKit

theorem St.celHeap {w0 w : World} {μ : List Asrt} {g : Nat} {T : TypeId} {cs : Array Value} (h : St w0 w (aCel g T cs :: μ)) : w.heap[g]? = some (.cells cs T (0, 0)) := h.ok _ (.head _)

namespace Lx
noncomputable def err (of : List Int) (next : List (List Int)) (tags : List Int) (n : Nat) : Int := if Pkd.err of next tags = 0 then (if 2000 < n then 2 else 0) else Pkd.err of next tags
theorem err_bad {of next tags n} (h : Pkd.err of next tags ≠ 0) : err of next tags n = Pkd.err of next tags := by rw [err, if_neg h]
theorem err_large {of next tags n} (h : Pkd.err of next tags = 0) (h1 : 2000 < n) : err of next tags n = 2 := by rw [err, if_pos h, if_pos h1]
theorem err_ok {of next tags n} (h : Pkd.err of next tags = 0) (h1 : ¬ 2000 < n) : err of next tags n = 0 := by rw [err, if_pos h, if_neg h1]
theorem err_zero {of next tags n} (h : err of next tags n = 0) : n ≤ 2000 ∧ next.length ≤ 200 ∧ Pkd.Good of next tags := by
  unfold err at h
  rcases Pkd.err_cases of next tags with h1 | ⟨h1, h2, h3⟩
  · rw [if_neg (by omega)] at h; omega
  · rw [if_pos h1] at h
    by_cases h4 : 2000 < n
    · rw [if_pos h4] at h; omega
    · exact ⟨by omega, h2, h3⟩
end Lx
attribute [irreducible] Lx.err

set_option maxRecDepth 100000 in
theorem lexCheck_any (A : Array Value) (of : List Int) (next : List (List Int)) (tags : List Int) (vn vt : Value) (s : ByteArray) (hs : s.size ≤ 140737488355328) (w : World) (hp : PackedAt w A of next tags vn vt) :
    Calls Try.prog 125 #[.agg A, .string s] w fun e w' => e = .returned (.int .i64 (Lx.err of next tags s.size)) ∧ Below w.heap.size w w' := by
  have hsz : (Try.prog.info? 61).map (·.size) = some A.size := by rw [hp.size]; kernel_rfl
  have HS := Lib.hid hsz; clear hsz
  have hst := (St.init w).alloc A 61
  have HP := Lib.hid hp; clear hp
  have HA := Lib.hid hst.celHeap
  have HST := Lib.hid hst; clear hst
  by_cases h0 : Pkd.err of next tags = 0
  · by_cases h1 : 2000 < s.size
    · have HE := Lib.hid (Lx.err_large (n := s.size) h0 h1)
      have H0 := Lib.hid h0; clear h0
      go_enter Try.func125, Try.ntmps125
      go_wp2_with (first
        | (refine wpList_load_row rfl 61 (.tmp 2) rfl w.heap.size rfl 61 A (0, 0) _ HA.out Try.underlying61 rfl HS.out ?_)
        | (go_at_call 122; refine (smallCheck_any A of next tags vn vt _ (HP.out.below HST.out.bel)).mono ?_; rintro e w1 ⟨rfl, hb1⟩; rw [H0.out]))
      go_ret
      exact ⟨by rw [HE.out]; rfl, (HST.out.call hb1).bel⟩
    · have HE := Lib.hid (Lx.err_ok (n := s.size) h0 h1)
      have H0 := Lib.hid h0; clear h0
      go_enter Try.func125, Try.ntmps125
      go_wp2_with (first
        | (refine wpList_load_row rfl 61 (.tmp 2) rfl w.heap.size rfl 61 A (0, 0) _ HA.out Try.underlying61 rfl HS.out ?_)
        | (go_at_call 122; refine (smallCheck_any A of next tags vn vt _ (HP.out.below HST.out.bel)).mono ?_; rintro e w1 ⟨rfl, hb1⟩; rw [H0.out]))
      go_ret
      exact ⟨by rw [HE.out]; rfl, (HST.out.call hb1).bel⟩
  · have HE := Lib.hid (Lx.err_bad (n := s.size) h0)
    have H0 : ((Pkd.err of next tags) != 0) = true := by rw [bne_iff_ne]; exact h0
    have hc := fun w' h => smallCheck_any A of next tags vn vt w' h
    generalize Pkd.err of next tags = E at *
    replace hc := Lib.hid hc
    clear h0
    go_enter Try.func125, Try.ntmps125
    go_wp2_with (first
      | (refine wpList_load_row rfl 61 (.tmp 2) rfl w.heap.size rfl 61 A (0, 0) _ HA.out Try.underlying61 rfl HS.out ?_)
      | (go_at_call 122; refine (hc.out _ (HP.out.below HST.out.bel)).mono ?_; rintro e w1 ⟨rfl, hb1⟩))
    go_ret
    exact ⟨by rw [HE.out]; rfl, (HST.out.call hb1).bel⟩
end Go.Proofs.Ytahoapgmiecphaa
