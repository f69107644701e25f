/-
  A packed automaton that came in, opened. Check of package small and RightPacked of the reference: what they compute.
-/
import Derived.Test.YtanoagnfgncnkaaDfaDat
import Derived.Test.YtanoagnfgncnkaaArrEq
namespace Go.Proofs.Ytanoagnfgncnkaa
open Go.ChangeShapes Go.WideShapes Go.ChangeAt Go.RowKit Go.Joins

/-- A slice of slices of numbers that came in. -/
theorem slSls {w : World} {k : IntKind} {v : Value} {l : List (List Int)} (h : Sl w 1 (RSl w 1 (RInt k)) v l) :
    ∃ (ao : Option Addr) (b off cap : Nat), v = .slice ao l.length cap ∧ l.length ≤ cap ∧ cap ≤ maxLen ∧ (0 < l.length → ao = some ⟨b, off, none⟩ ∧ b < w.heap.size) ∧
      ∀ i, i < l.length → ∃ vi, w.cell? ⟨b, off + i, none⟩ = some vi ∧ Sl w 1 (RInt k) vi (l.getD i []) := by
  obtain ⟨ao, b, off, cap, h0, h1, h2, h3, h4⟩ := h
  refine ⟨ao, b, off, cap, h0, h1, h2, h3, fun i hi => ?_⟩
  obtain ⟨cs, g1, g2, vi, g3, g4⟩ := h4 i hi
  have := g2 0 (by omega)
  rw [g3, Nat.mul_one, Nat.add_zero] at this
  exact ⟨vi, this, by simpa [List.getD, List.getElem?_eq_getElem hi] using g4⟩

structure PackedAt (w : World) (A : Array Value) (of : List Int) (next : List (List Int)) (tags : List Int) (vn vt : Value) : Prop where
  size : A.size = 258
  ofs : RRow .u8 256 (A.toList.take 256) of
  c256 : A[256]? = some vn
  c257 : A[257]? = some vt
  nexts : Sl w 1 (RSl w 1 (RInt .i64)) vn next
  tagss : Sl w 1 (RInt .i64) vt tags

theorem PackedAt.below {w w' : World} {A : Array Value} {of : List Int} {next : List (List Int)} {tags : List Int} {vn vt : Value} (h : PackedAt w A of next tags vn vt) (hb : Below w.heap.size w w') : PackedAt w' A of next tags vn vt :=
  ⟨h.size, h.ofs, h.c256, h.c257, h.nexts.call hb (fun _ _ ⟨v, h1, h2⟩ => ⟨v, h1, h2.call hb (fun _ _ h => h)⟩), h.tagss.call hb (fun _ _ h => h)⟩

theorem PackedAt.of_at {w : World} {A : Array Value} {of : List Int} {next : List (List Int)} {tags : List Int} {vn vt : Value} (h : PackedAt w A of next tags vn vt) (c : Nat) (hc : c < 256) : A[c]? = some (.int .u8 (of.getD c 0)) := by
  have h1 := h.ofs.1
  have h2 : (A.toList.take 256)[c]? = A[c]? := by simp [hc]
  rw [← h2, h1, List.getElem?_map]
  have := h.ofs.2.1
  rw [List.getElem?_eq_getElem (by omega)]
  simp [List.getD, List.getElem?_eq_getElem (show c < of.length by omega)]
theorem PackedAt.of_wf {w : World} {A : Array Value} {of : List Int} {next : List (List Int)} {tags : List Int} {vn vt : Value} (h : PackedAt w A of next tags vn vt) (c : Nat) (hc : c < 256) : 0 ≤ of.getD c 0 ∧ of.getD c 0 < 256 := by
  have hl := h.ofs.2.1
  have hm : of.getD c 0 ∈ of := by simp [List.getD, List.getElem?_eq_getElem (show c < of.length by omega)]
  have := h.ofs.2.2 _ hm
  have h2 : 0 ≤ of.getD c 0 ∧ of.getD c 0 ≤ 255 := by simpa [Lit.wf, IntKind.min, IntKind.max, IntKind.signed, IntKind.bits] using this
  omega

set_option maxRecDepth 100000 in
theorem open_Packed {H : Type} {enc : TypeId × Value → H} {w : World} {base : Nat} {spare : Nat → Bool} {held : Bool} {r : Reach} {b0 : Nat} {v : Value} {d : DataW H} {p : List MemPlace}
    (hv : Value.okWide Try.prog w r b0 26 v) (h : DataW.Trod enc Try.prog w base spare held 26 v d p) : ∃ A of next tags vn vt, v = .agg A ∧ PackedAt w A of next tags vn vt := by
  obtain ⟨A, rfl, hsz⟩ := okWide_struct Try.underlying26 hv
  have hA : A.size = 258 := hsz.trans (by kernel_rfl)
  obtain ⟨fuel, hf⟩ := h
  obtain ⟨m0, z0, h0⟩ := rField Try.underlying26 hf 0 _ rfl
  obtain ⟨m1, z1, h1⟩ := rField Try.underlying26 hf 1 _ rfl
  obtain ⟨m2, z2, h2⟩ := rField Try.underlying26 hf 2 _ rfl
  obtain ⟨of, hof⟩ := rRow (k := .u8) Try.underlying23 Try.underlying5 (by kernel_rfl) (by kernel_rfl) h0
  obtain ⟨vn, next, e1, hn⟩ := open_sl (size := 1) (R := RSl w 1 (RInt .i64)) Try.underlying24 (by kernel_rfl) (by decide) h1 (fun _ _ _ _ hh => rSl Try.underlying22 (by kernel_rfl) (by decide) (fun _ _ _ _ hh => rInt Try.underlying3 hh) hh)
  obtain ⟨vt, tags, e2, ht⟩ := open_sl (size := 1) (R := RInt .i64) Try.underlying22 (by kernel_rfl) (by decide) h2 (fun _ _ _ _ hh => rInt Try.underlying3 hh)
  have c0 : Try.prog.cellsOf 23 = 256 := by kernel_rfl
  have c1 : Try.prog.cellsOf 24 = 1 := by kernel_rfl
  have c2 : Try.prog.cellsOf 22 = 1 := by kernel_rfl
  refine ⟨A, of, next, tags, vn, vt, rfl, hA, ?_, ?_, ?_, hn, ht⟩
  · simpa [Value.cells, c0] using hof
  · have : ((A.toList.drop 256).take 1)[0]? = some vn := by
      have := congrArg (·[0]?) e1
      simpa [Value.cells, c1] using this
    simpa using this
  · have : ((A.toList.drop 257).take 1)[0]? = some vt := by
      have := congrArg (·[0]?) e2
      simpa [Value.cells, c2] using this
    simpa using this

namespace Pkd
def wide (next : List (List Int)) : Nat := (next.getD 0 []).length
def rowGood (n wd : Nat) (row : List Int) : Prop := row.length = wd ∧ ∀ c, c < wd → -1 ≤ row.getD c 0 ∧ row.getD c 0 < n
structure Good (of : List Int) (next : List (List Int)) (tags : List Int) : Prop where
  n0 : next.length ≠ 0
  tl : tags.length = next.length
  w0 : wide next ≠ 0
  w1 : wide next ≤ 256
  rows : ∀ i, i < next.length → Aut.tagGood (tags.getD i 0) ∧ rowGood next.length (wide next) (next.getD i [])
  cols : ∀ c, c < 256 → of.getD c 0 < wide next
open Classical in
noncomputable def err (of : List Int) (next : List (List Int)) (tags : List Int) : Int :=
  if 200 < next.length then 2 else if Good of next tags then 0 else 1
theorem err_large (of next tags) (h : 200 < next.length) : err of next tags = 2 := by rw [err, if_pos h]
theorem err_bad (of next tags) (h : ¬ 200 < next.length) (h1 : ¬ Good of next tags) : err of next tags = 1 := by rw [err, if_neg h, if_neg h1]
theorem err_ok (of next tags) (h : ¬ 200 < next.length) (h1 : Good of next tags) : err of next tags = 0 := by rw [err, if_neg h, if_pos h1]
theorem err_cases (of next tags) : (0 < err of next tags ∧ err of next tags ≤ 2) ∨ (err of next tags = 0 ∧ next.length ≤ 200 ∧ Good of next tags) := by
  by_cases h : 200 < next.length
  · rw [err_large of next tags h]; left; omega
  · by_cases g : Good of next tags
    · right; exact ⟨err_ok of next tags h g, by omega, g⟩
    · rw [err_bad of next tags h g]; left; omega
end Pkd
end Go.Proofs.Ytanoagnfgncnkaa
