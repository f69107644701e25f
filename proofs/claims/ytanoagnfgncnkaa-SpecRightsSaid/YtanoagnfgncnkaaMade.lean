/-
  What spec.Make makes, as it comes in; what is wrong with it.
-/
import Derived.Test.YtanoagnfgncnkaaPackedRef
import Derived.Test.YtanoagnfgncnkaaPackedChk
import Derived.Test.YtanoagnfgncnkaaGramIn
import Derived.Test.YtanoagnfgncnkaaRRows
import Derived.Test.YtanoagnfgncnkaaTabAny
namespace Go.Proofs.Ytanoagnfgncnkaa
set_option linter.unusedVariables false
open Go.ChangeShapes Go.WideShapes Go.ChangeAt Go.RowKit

theorem Enc.toSlN {α : Type} {E : Enc α} {bytes : Nat} {F : Nat → Prop} {w : World} {v : Value} {l : List α} {R : List Value → α → Prop} {n : Nat} (hn : E.size = n) (hR : ∀ cs a, E.R F w cs a → R cs a) (h : (E.sl bytes).R F w [v] l) : Sl w n R v l := by
  obtain ⟨ao, b, off, cap, h0, h1, h2, h3, h4, h5, h6⟩ := h
  subst hn
  refine ⟨ao, b, off, cap, by simpa using h0, h1, h2, fun hl => ⟨(h5 hl).1, (h5 hl).2.1⟩, fun i hi => ?_⟩
  obtain ⟨cs, g1, g2, g3⟩ := h6 i hi
  exact ⟨cs, g1, g2, hR _ _ g3⟩

abbrev Mk.Pk := List Int × List (List Int) × List Int
def Enc.packed : Enc Mk.Pk := Enc.prod (Enc.row .u8 256) (Enc.prod (((Enc.int .i64).sl 8).sl 24) ((Enc.int .i64).sl 8))
theorem packed_at {F : Nat → Prop} {w : World} {A : Array Value} {p : Mk.Pk} (h : Enc.packed.R F w A.toList p) : ∃ vn vt, PackedAt w A p.1 p.2.1 p.2.2 vn vt := by
  obtain ⟨c1, c2, e1, h1, c3, c4, e2, h3, h4⟩ := h
  have g3 := h3; have g4 := h4
  obtain ⟨_, _, _, _, rfl, _⟩ := g3
  obtain ⟨_, _, _, _, rfl, _⟩ := g4
  subst e2
  have hl : c1.length = 256 := by rw [h1.1, List.length_map, h1.2.1]
  refine ⟨_, _, ?_, ?_, ?_, ?_, Enc.toSlN rfl (fun cs a g => ?_) h3, Enc.toSlN rfl (fun _ _ g => g) h4⟩
  · rw [← Array.length_toList, e1, List.length_append, hl]; rfl
  · rw [e1, List.take_append_of_le_length (by omega), List.take_of_length_le (by omega)]; exact h1
  · rw [← Array.getElem?_toList, e1, List.getElem?_append_right (by omega), hl]; rfl
  · rw [← Array.getElem?_toList, e1, List.getElem?_append_right (by omega), hl]; rfl
  · have g2 := g
    obtain ⟨_, _, _, _, rfl, _⟩ := g2
    exact ⟨_, rfl, Enc.toSlN rfl (fun _ _ g => g) g⟩
theorem opens_ints : Opens Try.prog 22 ((Enc.int .i64).sl 8) := Opens.sl Try.underlying22 (by kernel_rfl) (by decide) (by kernel_rfl) (Opens.int Try.underlying3)
theorem opens_intss : Opens Try.prog 24 (((Enc.int .i64).sl 8).sl 24) := Opens.sl Try.underlying24 (by kernel_rfl) (by decide) (by kernel_rfl) opens_ints
theorem opens_packed : Opens Try.prog 26 Enc.packed := by
  show Opens _ _ (Enc.prod (Enc.row .u8 256) (Enc.prod (((Enc.int .i64).sl 8).sl 24) ((Enc.int .i64).sl 8)))
  exact Opens.struct Try.underlying26 (by kernel_rfl) (OpensFrom.cons rfl rfl (by kernel_rfl) (Opens.row Try.underlying23 Try.underlying5 (by kernel_rfl) (by kernel_rfl)) (OpensFrom.cons rfl rfl (by kernel_rfl) opens_intss (OpensFrom.last rfl rfl (by kernel_rfl) opens_ints)))
abbrev Mk.Md := List Int × Mk.Pk × (Int × Int × List (Int × List (Int × Int))) × Int × List (List Int) × (List (List (Int × Int)) × List (List Int))
def Enc.made : Enc Mk.Md := Enc.prod ((Enc.int .i64).sl 8) (Enc.prod Enc.packed (Enc.prod Enc.gram (Enc.prod (Enc.int .i64) (Enc.prod (((Enc.int .i64).sl 8).sl 24) Enc.table))))
theorem opens_made : Opens Try.prog 34 Enc.made := by
  show Opens _ _ (Enc.prod ((Enc.int .i64).sl 8) (Enc.prod Enc.packed (Enc.prod Enc.gram (Enc.prod (Enc.int .i64) (Enc.prod (((Enc.int .i64).sl 8).sl 24) Enc.table)))))
  exact Opens.struct Try.underlying34 (by kernel_rfl) (OpensFrom.cons rfl rfl (by kernel_rfl) opens_ints (OpensFrom.cons rfl rfl (by kernel_rfl) opens_packed (OpensFrom.cons rfl rfl (by kernel_rfl) opens_gram (OpensFrom.cons rfl rfl (by kernel_rfl) (Opens.int Try.underlying3) (OpensFrom.cons rfl rfl (by kernel_rfl) opens_intss (OpensFrom.last rfl rfl (by kernel_rfl) opens_table))))))

/-- The cells of what came in. -/
structure MadeAt (F : Nat → Prop) (w : World) (A : Array Value) (m : Mk.Md) (v0 : Value) (Pc : Array Value) (vn vt vp vr va vg : Value) : Prop where
  size : A.size = 266
  psize : Pc.size = 258
  cells : A.toList = v0 :: (Pc.toList ++ [.int .i64 m.2.2.1.1, .int .i64 m.2.2.1.2.1, vp, .int .i64 m.2.2.2.1, vr, va, vg])
  ofs : ((Enc.int .i64).sl 8).R F w [v0] m.1
  packed : PackedAt w Pc m.2.1.1 m.2.1.2.1 m.2.1.2.2 vn vt
  prods : Enc.prods.R F w [vp] m.2.2.1.2.2
  rows : (((Enc.int .i64).sl 8).sl 24).R F w [vr] m.2.2.2.2.1
  acts : ((Enc.two.sl 16).sl 24).R F w [va] m.2.2.2.2.2.1
  gts : (((Enc.int .i64).sl 8).sl 24).R F w [vg] m.2.2.2.2.2.2
  tags : ((Enc.int .i64).sl 8).R F w [vt] m.2.1.2.2
theorem made_cells {F : Nat → Prop} {w : World} {A : Array Value} {m : Mk.Md} (h : Enc.made.R F w A.toList m) : ∃ v0 Pc vn vt vp vr va vg, MadeAt F w A m v0 Pc vn vt vp vr va vg := by
  have hlen := Enc.made.len h
  obtain ⟨c1, d1, e1, h1, c2, d2, e2, h2, c3, d3, e3, h3, c4, d4, e4, h4, c5, c6, e5, h5, h6⟩ := h
  have g1 := h1; obtain ⟨_, _, _, _, rfl, _⟩ := g1
  have g5 := h5; obtain ⟨_, _, _, _, rfl, _⟩ := g5
  obtain ⟨va, vg, e6, ha, hg⟩ := table_cells (cs := c6.toArray) (by simpa using h6)
  obtain ⟨vp, e7, hp, _, _⟩ := gram_cells (cs := c3.toArray) (by simpa using h3)
  obtain ⟨vn, vt, hpk⟩ := packed_at (A := c2.toArray) (by simpa using h2)
  have ht : ((Enc.int .i64).sl 8).R F w [vt] m.2.1.2.2 := by
    obtain ⟨q1, q2, e8, g1, q3, q4, e9, g3, g4⟩ := h2
    have k3 := g3; have k4 := g4
    obtain ⟨_, _, _, _, rfl, _⟩ := k3
    obtain ⟨_, _, _, _, rfl, _⟩ := k4
    have hl : q1.length = 256 := by rw [g1.1, List.length_map, g1.2.1]
    have := hpk.c257
    rw [← Array.getElem?_toList, e8, List.getElem?_append_right (by omega), hl, e9] at this
    simp at this
    rw [← this]; exact g4
  obtain ⟨rfl, _⟩ := h4
  have e6' := congrArg Array.toList e6
  have e7' := congrArg Array.toList e7
  simp only at e6' e7'
  subst e5 e4 e3 e2
  exact ⟨_, c2.toArray, vn, vt, vp, _, va, vg, by rw [← Array.length_toList]; exact hlen, hpk.size, by rw [e1, e6', e7']; simp, h1, hpk, hp, h5, ha, hg, ht⟩

namespace Mk
def ofGood (t : Int) (of : List Int) : Prop := ∀ i, i < of.length → -1 ≤ of.getD i 0 ∧ of.getD i 0 < t
def tagsGood (n : Nat) (tags : List Int) : Prop := ∀ i, i < tags.length → tags.getD i 0 < n
open Classical in
noncomputable def err (m : Md) : Int :=
  if Pkd.err m.2.1.1 m.2.1.2.1 m.2.1.2.2 ≠ 0 then Pkd.err m.2.1.1 m.2.1.2.1 m.2.1.2.2
  else if Gr.err m.2.2.1.1 m.2.2.1.2.1 m.2.2.1.2.2 ≠ 0 ∨ m.1.length = 0 ∨ 20 < m.1.length then 1
  else if ¬ ofGood m.2.2.1.1 m.1 ∨ ¬ tagsGood m.1.length m.2.1.2.2 then 1
  else if m.2.2.2.1 = 1 then Rw.all m.2.2.1.1 m.2.2.1.2.1 m.2.2.1.2.2 m.2.2.2.2.1
  else if m.2.2.2.1 = 2 then Tb.all m.2.2.1.1 m.2.2.1.2.1 m.2.2.1.2.2 m.2.2.2.2.2.1 m.2.2.2.2.2.2 else 1
end Mk
end Go.Proofs.Ytanoagnfgncnkaa
