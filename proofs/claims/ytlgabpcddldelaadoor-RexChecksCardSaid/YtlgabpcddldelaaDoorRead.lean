/-
  Arguments that come in, read as plain data: slices as lists, structs field by field. (A helper text; it claims nothing of the program.)
-/
import Derived.Test.YtlgabpcddldelaaDoorMem
import Derived.Deep.MidRow
namespace Go.Proofs.YtlgabpcddldelaaDoor
set_option linter.unusedVariables false
open Go.ChangeShapes Go.WideShapes Go.ChangeAt Go.RowKit

section
variable {H : Type} {enc : TypeId × Value → H} {P : Program} {w : World} {base : Nat} {spare : Nat → Bool} {held : Bool}

/-- The slice value v reads as the list l: its elements are 'size' cells each, and R tells what such cells read as. -/
def Sl {α : Type} (w : World) (size : Nat) (R : List Value → α → Prop) (v : Value) (l : List α) : Prop :=
  ∃ (ao : Option Addr) (b off cap : Nat), v = .slice ao l.length cap ∧ l.length ≤ cap ∧ cap ≤ maxLen ∧ (0 < l.length → ao = some ⟨b, off, none⟩ ∧ b < w.heap.size) ∧
    ∀ i (h : i < l.length), ∃ cs, cs.length = size ∧ (∀ j, j < size → w.cell? ⟨b, off + i * size + j, none⟩ = cs[j]?) ∧ R cs l[i]

theorem Sl.call {α : Type} {size : Nat} {R R' : List Value → α → Prop} {v : Value} {l : List α} {w' : World} (h : Sl w size R v l) (hb : Below w.heap.size w w') (hR : ∀ cs a, R cs a → R' cs a) : Sl w' size R' v l := by
  obtain ⟨ao, b, off, cap, hv, h1, h2, h3, h4⟩ := h
  refine ⟨ao, b, off, cap, hv, h1, h2, fun hl => ⟨(h3 hl).1, Nat.lt_of_lt_of_le (h3 hl).2 hb.size⟩, fun i hi => ?_⟩
  obtain ⟨cs, h5, h6, h7⟩ := h4 i hi
  exact ⟨cs, h5, fun j hj => by rw [hb.cell (h3 (by omega)).2]; exact h6 j hj, hR _ _ h7⟩

theorem list_of_each {α : Type} {n : Nat} {p : Nat → α → Prop} (h : ∀ i, i < n → ∃ a, p i a) : ∃ l : List α, l.length = n ∧ ∀ i (hi : i < l.length), p i l[i] := by
  induction n with
  | zero => exact ⟨[], rfl, fun i hi => by simp at hi⟩
  | succ n ih =>
    obtain ⟨l, hl, hp⟩ := ih fun i hi => h i (by omega)
    obtain ⟨a, ha⟩ := h n (by omega)
    refine ⟨l ++ [a], by simp [hl], fun i hi => ?_⟩
    by_cases e : i < l.length
    · rw [List.getElem_append_left e]; exact hp i e
    · have e2 : i = l.length := by simp at hi; omega
      subst e2
      rw [List.getElem_append_right (Nat.le_refl _)]
      simpa [hl] using ha

/-- A slice that came in, opened. -/
theorem open_sl {α : Type} {t e : TypeId} {size fuel : Nat} {cs : List Value} {x : DataW H × List MemPlace} {R : List Value → α → Prop} (ht : P.underlying t = some (.slice e)) (hs : P.cellsOf e = size) (hp : 0 < size)
    (h : DataW.trod enc P w base spare held fuel t cs = some x)
    (hR : ∀ n cs y, cs.length = size → DataW.trod enc P w base spare held n e cs = some y → ∃ a, R cs a) : ∃ v l, cs = [v] ∧ Sl w size R v l := by
  rcases DataW.trod_slice ht h with ⟨h0, _⟩ | ⟨a, len, cap, elems, rest, n, _, rfl, _, hb, hl, hm, hlen, hel, _⟩
  · exact ⟨_, [], h0, none, 0, 0, 0, rfl, Nat.le_refl _, by decide, fun h => by simp at h, fun i hi => by simp at hi⟩
  · subst hs
    obtain ⟨b, off, spot⟩ := a
    have each : ∀ i, i < len → ∃ q : α × List Value, (∃ cs', w.cells? base ((⟨b, off, spot⟩ : Addr).add (i * P.cellsOf e)) (P.cellsOf e) = some cs' ∧ q.2 = cs' ∧ R cs' q.1) := by
      intro i hi
      have h1 := hel i hi
      rw [List.getElem?_eq_getElem (by omega)] at h1
      obtain ⟨cs', h2, h3⟩ := Option.bind_eq_some_iff.1 h1
      obtain ⟨hbb, hl2, _⟩ := World.cells?_some h2
      obtain ⟨a, ha⟩ := hR n cs' _ hl2 h3
      exact ⟨(a, cs'), cs', h2, rfl, ha⟩
    obtain ⟨l, hl1, hl2⟩ := list_of_each each
    refine ⟨_, l.map (·.1), rfl, some ⟨b, off, spot⟩, b, off, cap, by simp [hl1], by simp [hl1]; omega, hm, fun hpos => ?_, fun i hi => ?_⟩
    · have hi0 : 0 < l.length := by simpa using hpos
      obtain ⟨cs', h2, _, _⟩ := hl2 0 hi0
      obtain ⟨_, hl3, hc⟩ := World.cells?_some h2
      have h0 := hc 0 hp
      have e : ∃ q, cs'[0]? = some q := ⟨cs'[0]'(by omega), List.getElem?_eq_getElem (by omega)⟩
      obtain ⟨q, hq⟩ := e
      rw [hq] at h0
      have hz : ((⟨b, off, spot⟩ : Addr).add (0 * P.cellsOf e)).add 0 = ⟨b, off, spot⟩ := by simp [Addr.add]
      rw [hz] at h0
      have hspot := World.cell?_spot h0
      have hblk := World.block_lt_of_cell? w _ h0
      simp only at hspot
      subst hspot
      exact ⟨rfl, hblk⟩
    · have hi0 : i < l.length := by simpa using hi
      obtain ⟨cs', h2, h5, h6⟩ := hl2 i hi0
      obtain ⟨_, hl3, hc⟩ := World.cells?_some h2
      have spot0 : spot = none := by
        obtain ⟨cs0, g2, _, _⟩ := hl2 0 (by omega)
        obtain ⟨_, g3, gc⟩ := World.cells?_some g2
        have h0 := gc 0 hp
        rw [List.getElem?_eq_getElem (by omega)] at h0
        have hz : ((⟨b, off, spot⟩ : Addr).add (0 * P.cellsOf e)).add 0 = ⟨b, off, spot⟩ := by simp [Addr.add]
        rw [hz] at h0
        exact World.cell?_spot h0
      subst spot0
      refine ⟨cs', hl3, fun j hj => ?_, by simpa [h5] using h6⟩
      rw [← hc j hj]
      congr 1
      unfold Addr.add
      by_cases e1 : i * P.cellsOf e = 0 <;> by_cases e2 : j = 0 <;> simp [e1, e2]
end

/-! What cells read as. -/
def RInt (k : IntKind) (cs : List Value) (n : Int) : Prop := cs = [.int k n] ∧ (Lit.int k n).wf = true
def RBool (cs : List Value) (b : Bool) : Prop := cs = [.bool b]
def RStr (cs : List Value) (s : ByteArray) : Prop := cs = [.string s] ∧ s.size ≤ maxLen
def RSl {α : Type} (w : World) (size : Nat) (R : List Value → α → Prop) (cs : List Value) (l : List α) : Prop := ∃ v, cs = [v] ∧ Sl w size R v l

section
variable {H : Type} {enc : TypeId × Value → H} {P : Program} {w : World} {base : Nat} {spare : Nat → Bool} {held : Bool} {t e : TypeId} {n : Nat} {cs : List Value} {y : DataW H × List MemPlace}
theorem rInt {k : IntKind} (ht : P.underlying t = some (.int k)) (h : DataW.trod enc P w base spare held n t cs = some y) : ∃ a, RInt k cs a := by
  obtain ⟨m, h1, _, h2⟩ := DataW.trod_int ht h
  exact ⟨m, h1, h2⟩
theorem rBool (ht : P.underlying t = some .bool) (h : DataW.trod enc P w base spare held n t cs = some y) : ∃ a, RBool cs a := by
  obtain ⟨m, h1, _⟩ := DataW.trod_bool ht h
  exact ⟨m, h1⟩
theorem rStr (ht : P.underlying t = some .string) (h : DataW.trod enc P w base spare held n t cs = some y) : ∃ a, RStr cs a := by
  obtain ⟨m, h1, _, h2⟩ := DataW.trod_string ht h
  exact ⟨m, h1, h2⟩
theorem rSl {α : Type} {size : Nat} {R : List Value → α → Prop} (ht : P.underlying t = some (.slice e)) (hs : P.cellsOf e = size) (hp : 0 < size)
    (hR : ∀ n cs y, cs.length = size → DataW.trod enc P w base spare held n e cs = some y → ∃ a, R cs a) (h : DataW.trod enc P w base spare held n t cs = some y) : ∃ l, RSl w size R cs l := by
  obtain ⟨v, l, h1, h2⟩ := open_sl ht hs hp h hR
  exact ⟨l, v, h1, h2⟩
/-- A struct's field. -/
theorem rField {fs : Array Field} (ht : P.underlying t = some (.struct fs)) (h : DataW.trod enc P w base spare held n t cs = some y) (i : Nat) (f : Field) (hf : fs[i]? = some f) :
    ∃ m z, DataW.trod enc P w base spare held m f.type ((cs.drop f.offset).take (P.cellsOf f.type)) = some z := by
  obtain ⟨xs, m, _, _, _, hlen, hel⟩ := DataW.trod_struct ht h
  have h1 := hel i f hf
  have hi : i < fs.size := (Array.getElem?_eq_some_iff.1 hf).1
  rw [List.getElem?_eq_getElem (by omega)] at h1
  exact ⟨m, _, h1⟩
end

/-- Element i of a slice that came in. -/
theorem Sl.range {α : Type} {size : Nat} {R : List Value → α → Prop} {b off : Nat} {l : List α} {w : World}
    (h : ∀ i (h : i < l.length), ∃ cs, cs.length = size ∧ (∀ j, j < size → w.cell? ⟨b, off + i * size + j, none⟩ = cs[j]?) ∧ R cs l[i]) (i : Nat) (hi : i < l.length) :
    ∃ cs, R cs l[i] ∧ w.rangeAt b (off + i * size) cs := by
  obtain ⟨cs, h1, h2, h3⟩ := h i hi
  refine ⟨cs, h3, fun j v hv => ?_⟩
  have hj : j < cs.length := (List.getElem?_eq_some_iff.1 hv).1
  rw [h2 j (by omega), hv]

theorem rangeAt_below {w w' : World} (hb : Below w.heap.size w w') {b off : Nat} {cs : List Value} (h : w.rangeAt b off cs) : w'.rangeAt b off cs :=
  fun j v hv => bkeep hb (h j v hv)

def RRow (k : IntKind) (n : Nat) (cs : List Value) (row : List Int) : Prop := cs = row.map (Value.int k) ∧ row.length = n ∧ ∀ x ∈ row, (Lit.int k x).wf = true

/-- An array of numbers, by value. -/
theorem rRow {H : Type} {enc : TypeId × Value → H} {P : Program} {w : World} {base : Nat} {spare : Nat → Bool} {held : Bool} {t e : TypeId} {m n : Nat} {cs : List Value} {y : DataW H × List MemPlace} {k : IntKind}
    (ht : P.underlying t = some (.array n e)) (he : P.underlying e = some (.int k)) (hc : P.cellsOf e = 1) (hct : P.cellsOf t = n) (h : DataW.trod enc P w base spare held m t cs = some y) : ∃ row, RRow k n cs row := by
  obtain ⟨xs, q, _, _, hl, hx, hel⟩ := DataW.trod_array ht h
  have each : ∀ i, i < n → ∃ a : Int, cs[i]? = some (.int k a) ∧ (Lit.int k a).wf = true := by
    intro i hi
    have h1 := hel i hi
    rw [List.getElem?_eq_getElem (by omega), hc, Nat.mul_one] at h1
    obtain ⟨a, ha, _, hw⟩ := DataW.trod_int he h1
    refine ⟨a, ?_, hw⟩
    have h2 : ((cs.drop i).take 1)[0]? = some (.int k a) := by rw [ha]; rfl
    simpa using h2
  obtain ⟨row, hr1, hr2⟩ := list_of_each each
  refine ⟨row, List.ext_getElem? fun i => ?_, hr1, fun x hx => ?_⟩
  · by_cases hi : i < row.length
    · rw [(hr2 i hi).1, List.getElem?_map, List.getElem?_eq_getElem hi]; rfl
    · rw [List.getElem?_eq_none (by omega), List.getElem?_eq_none (by simp; omega)]
  · obtain ⟨i, hi, rfl⟩ := List.getElem_of_mem hx
    exact (hr2 i hi).2

/-- x[i] of an array of numbers by value. -/
theorem run_index_arr {P : Program} {t e : TypeId} {n : Nat} {k : IntKind} (ht : P.underlying t = some (.array n e)) (he : P.underlying e = some (.int k)) (hs : (P.info? e).map (·.size) = some 1)
    (xs : List Int) (hl : xs.length = n) (i : Nat) (hi : i < n) (w : World) : (Instr.index t (.agg (xs.map (Value.int k)).toArray) (.int .i64 i)).run P w = .ok (.int k (xs.getD i 0)) w := by
  cases hq : P.info? e with
  | none => simp [hq] at hs
  | some inf =>
    have hs1 : inf.size = 1 := by simpa [hq] using hs
    have hil : i < xs.length := by omega
    simp [Instr.index, asIntOf, run_underlying ht, run_underlying he, sizeOf, typeInfo, hq, hs1, part, isAgg, hi, hil]
end Go.Proofs.YtlgabpcddldelaaDoor
