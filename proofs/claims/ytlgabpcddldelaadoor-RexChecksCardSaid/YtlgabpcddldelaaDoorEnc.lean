/-
  How cells read as plain data, type by type; what came in, opened. (A helper text; it claims nothing of the program.)
-/
import Derived.Test.YtlgabpcddldelaaDoorSep
import Derived.SizedLaws
namespace Go.Proofs.YtlgabpcddldelaaDoor
set_option linter.unusedVariables false
open Go.ChangeShapes Go.WideShapes Go.ChangeAt Go.RowKit

/-- 'size' cells read as something of α, looking only into blocks of F. -/
structure Enc (α : Type) where
  size : Nat
  R : (Nat → Prop) → World → List Value → α → Prop
  len : ∀ {F w cs a}, R F w cs a → cs.length = size
  mono : ∀ {F F' : Nat → Prop} {w w' : World} {cs a}, R F w cs a → (∀ b, F b → F' b) → (∀ b, F b → w'.heap[b]? = w.heap[b]?) → R F' w' cs a

theorem cell_of_heap {w w' : World} {b o : Nat} (h : w'.heap[b]? = w.heap[b]?) : w'.cell? ⟨b, o, none⟩ = w.cell? ⟨b, o, none⟩ := World.cell?_of_block (w := w) h
theorem frozen_of_heap {w w' : World} {b o : Nat} (h : w'.heap[b]? = w.heap[b]?) : w'.frozen? ⟨b, o, none⟩ = w.frozen? ⟨b, o, none⟩ := World.frozen?_of_block (w := w) h

namespace Enc
def int (k : IntKind) : Enc Int where
  size := 1
  R := fun _ _ cs n => cs = [.int k n] ∧ (Lit.int k n).wf = true
  len := fun h => by rw [h.1]; rfl
  mono := fun h _ _ => h
def bool : Enc Bool where
  size := 1
  R := fun _ _ cs b => cs = [.bool b]
  len := fun h => by rw [h]; rfl
  mono := fun h _ _ => h
def str : Enc ByteArray where
  size := 1
  R := fun _ _ cs s => cs = [.string s] ∧ s.size ≤ 140737488355328
  len := fun h => by rw [h.1]; rfl
  mono := fun h _ _ => h
/-- An array of n numbers. -/
def row (k : IntKind) (n : Nat) : Enc (List Int) where
  size := n
  R := fun _ _ cs l => cs = l.map (Value.int k) ∧ l.length = n ∧ ∀ x ∈ l, (Lit.int k x).wf = true
  len := fun h => by rw [h.1, List.length_map, h.2.1]
  mono := fun h _ _ => h
def prod {α β : Type} (E : Enc α) (E' : Enc β) : Enc (α × β) where
  size := E.size + E'.size
  R := fun F w cs x => ∃ c1 c2, cs = c1 ++ c2 ∧ E.R F w c1 x.1 ∧ E'.R F w c2 x.2
  len := by rintro F w cs a ⟨c1, c2, rfl, h1, h2⟩; rw [List.length_append, E.len h1, E'.len h2]
  mono := by
    rintro F F' w w' cs a ⟨c1, c2, rfl, h1, h2⟩ hF hb
    exact ⟨c1, c2, rfl, E.mono h1 hF hb, E'.mono h2 hF hb⟩
/-- A slice, its elements 'bytes' bytes each. -/
def sl {α : Type} (E : Enc α) (bytes : Nat) : Enc (List α) where
  size := 1
  R := fun F w cs l => ∃ (ao : Option Addr) (b off cap : Nat), cs = [.slice ao l.length cap] ∧ l.length ≤ cap ∧ cap ≤ maxLen ∧ (l.length : Int) * bytes ≤ 140737488355328 ∧ (ao = none → cap = 0) ∧
    (0 < l.length → ao = some ⟨b, off, none⟩ ∧ b < w.heap.size ∧ F b) ∧
    ∀ i (h : i < l.length), ∃ cs, cs.length = E.size ∧ (∀ j, j < E.size → w.cell? ⟨b, off + i * E.size + j, none⟩ = cs[j]?) ∧ E.R F w cs l[i]
  len := by rintro F w cs a ⟨_, _, _, _, rfl, _⟩; rfl
  mono := by
    rintro F F' w w' cs l ⟨ao, b, off, cap, rfl, h1, h2, h3, h4, h5, h6⟩ hF hb
    refine ⟨ao, b, off, cap, rfl, h1, h2, h3, h4, fun hl => ?_, fun i hi => ?_⟩
    · obtain ⟨g1, g2, g3⟩ := h5 hl
      refine ⟨g1, ?_, hF _ g3⟩
      have := hb b g3
      rw [Array.getElem?_eq_getElem g2] at this
      exact (Array.getElem?_eq_some_iff.1 this).1
    · obtain ⟨c, g1, g2, g3⟩ := h6 i hi
      refine ⟨c, g1, fun j hj => ?_, E.mono g3 hF hb⟩
      rw [cell_of_heap (hb b (h5 (by omega)).2.2)]
      exact g2 j hj
end Enc

/-- The value v reads as a. -/
def Rd {α : Type} (E : Enc α) (F : Nat → Prop) (w : World) (v : Value) (a : α) : Prop := E.R F w v.cells.toList a
theorem Rd.mono {α : Type} {E : Enc α} {F F' : Nat → Prop} {w w' : World} {v : Value} {a : α} (h : Rd E F w v a) (hF : ∀ b, F b → F' b) (hb : ∀ b, F b → w'.heap[b]? = w.heap[b]?) : Rd E F' w' v a := E.mono h hF hb
theorem Rd.below {α : Type} {E : Enc α} {F : Nat → Prop} {w w' : World} {v : Value} {a : α} {B : Nat} (h : Rd E F w v a) (hb : Below B w w') (hF : ∀ b, F b → b < B) : Rd E F w' v a :=
  E.mono h (fun _ h => h) fun b h => hb.block b (hF b h)

/-! What comes in. -/
section
variable {H : Type}
def Light (P : Program) (t : TypeId) (d : DataW H) : Prop := ∀ n ∈ d.weights P t, n ≤ reachBytes
end
/-- Whatever is read at type t reads as E says. -/
structure Opens (P : Program) (t : TypeId) {α : Type} (E : Enc α) : Prop where
  h : ∀ {H : Type} {enc : TypeId × Value → H} {w : World} {base : Nat} {spare : Nat → Bool} {held : Bool} {fuel : Nat} {cs : List Value} {x : DataW H × List MemPlace},
    DataW.trod enc P w base spare held fuel t cs = some x → Light P t x.1 → ∃ a, E.R (fun b => b < w.heap.size) w cs a

theorem Opens.int {P : Program} {t : TypeId} {k : IntKind} (ht : P.underlying t = some (.int k)) : Opens P t (Enc.int k) := by
  constructor
  intro H enc w base spare held fuel cs x h _
  obtain ⟨m, h1, _, h2⟩ := DataW.trod_int ht h
  exact ⟨m, h1, h2⟩
theorem Opens.bool {P : Program} {t : TypeId} (ht : P.underlying t = some .bool) : Opens P t Enc.bool := by
  constructor
  intro H enc w base spare held fuel cs x h _
  obtain ⟨m, h1, _⟩ := DataW.trod_bool ht h
  exact ⟨m, h1⟩
theorem Opens.str {P : Program} {t : TypeId} (ht : P.underlying t = some .string) : Opens P t Enc.str := by
  constructor
  intro H enc w base spare held fuel cs x h hl
  obtain ⟨m, h1, h3, h2⟩ := DataW.trod_string ht h
  refine ⟨m, h1, ?_⟩
  have := hl m.size (by rw [h3]; simp [DataW.weights])
  unfold reachBytes at this
  omega
theorem Opens.row {P : Program} {t e : TypeId} {n : Nat} {k : IntKind} (ht : P.underlying t = some (.array n e)) (he : P.underlying e = some (.int k)) (hc : P.cellsOf e = 1) (hct : P.cellsOf t = n) : Opens P t (Enc.row k n) := by
  constructor
  intro H enc w base spare held fuel cs x h _
  exact rRow ht he hc hct h
theorem Opens.sl {P : Program} {t e : TypeId} {α : Type} {E : Enc α} {bytes : Nat} (ht : P.underlying t = some (.slice e)) (hs : P.cellsOf e = E.size) (hp : 0 < E.size) (hby : P.bytesOf e = bytes) (hE : Opens P e E) : Opens P t (Enc.sl E bytes) := by
  constructor
  intro H enc w base spare held fuel cs x h hl
  rcases DataW.trod_slice ht h with ⟨h0, _⟩ | ⟨a, len, cap, elems, rest, n, _, rfl, hx, hb, hlc, hm, hlen, hel, hrl, _⟩
  · subst h0
    exact ⟨[], none, 0, 0, 0, rfl, Nat.le_refl _, by decide, by simp, fun _ => rfl, fun h => by simp at h, fun i hi => by simp at hi⟩
  · subst hby
    obtain ⟨b, off, spot⟩ := a
    have hwt : x.1.weights P t = ((elems.map (·.1)).length + (rest.map (·.1)).length) * P.bytesOf e :: (DataW.weightsAll P e (elems.map (·.1)) ++ DataW.weightsAll P e (rest.map (·.1))) := by
      rw [hx, DataW.weights, ht]
    have hw : (elems.length : Int) * (P.bytesOf e : Int) ≤ 140737488355328 := by
      have := hl (((elems.map (·.1)).length + (rest.map (·.1)).length) * P.bytesOf e) (by rw [hwt]; exact .head _)
      unfold reachBytes at this
      rw [List.length_map, Nat.add_mul] at this
      have h3 := Nat.le_trans (Nat.le_add_right _ _) this
      clear this
      rw [← Int.natCast_mul]
      omega
    have light : ∀ i (hi : i < elems.length), Light P e (elems[i]).1 := by
      intro i hi m hm2
      refine hl m ?_
      rw [hwt]
      refine .tail _ (List.mem_append.2 (.inl ?_))
      have hmem : (elems[i]).1 ∈ elems.map (·.1) := List.mem_map.2 ⟨_, List.getElem_mem hi, rfl⟩
      clear hw hl hel hlen hx hwt
      generalize elems.map (·.1) = L at hmem
      induction L with
      | nil => cases hmem
      | cons d r ih =>
        rw [DataW.weightsAll, List.mem_append]
        rcases List.mem_cons.1 hmem with h | h
        · rw [← h]; exact .inl hm2
        · exact .inr (ih h)
    have each : ∀ i, i < len → ∃ q : α × List Value, (∃ cs', w.cells? base ((⟨b, off, spot⟩ : Addr).add (i * P.cellsOf e)) (P.cellsOf e) = some cs' ∧ q.2 = cs' ∧ E.R (fun b => b < w.heap.size) w cs' q.1) := by
      intro i hi
      have h1 := hel i hi
      rw [List.getElem?_eq_getElem (by omega)] at h1
      obtain ⟨cs', h2, h3⟩ := Option.bind_eq_some_iff.1 h1
      obtain ⟨hbb, hl2, _⟩ := World.cells?_some h2
      obtain ⟨a, ha⟩ := hE.h h3 (light i (by omega))
      exact ⟨(a, cs'), cs', h2, rfl, ha⟩
    obtain ⟨l, hl1, hl2⟩ := list_of_each each
    have spot0 : 0 < len → spot = none ∧ b < w.heap.size := by
      intro hpos
      obtain ⟨cs0, g2, _, _⟩ := hl2 0 (by omega)
      obtain ⟨_, g3, gc⟩ := World.cells?_some g2
      have h0 := gc 0 (by omega)
      rw [List.getElem?_eq_getElem (by omega)] at h0
      have hz : ((⟨b, off, spot⟩ : Addr).add (0 * P.cellsOf e)).add 0 = ⟨b, off, spot⟩ := by simp [Addr.add]
      rw [hz] at h0
      exact ⟨World.cell?_spot h0, World.block_lt_of_cell? w _ h0⟩
    refine ⟨l.map (·.1), some ⟨b, off, spot⟩, b, off, cap, by simp [hl1], by simp [hl1]; omega, hm, ?_, (fun h => by cases h), fun hpos => ?_, fun i hi => ?_⟩
    · rw [List.length_map, hl1, ← hlen]
      exact hw
    · have hi0 : 0 < l.length := by simpa using hpos
      obtain ⟨h1, h2⟩ := spot0 (by omega)
      subst h1
      exact ⟨rfl, h2, h2⟩
    · have hi0 : i < l.length := by simpa using hi
      obtain ⟨cs', h2, h5, h6⟩ := hl2 i hi0
      obtain ⟨_, hl3, hc⟩ := World.cells?_some h2
      obtain ⟨h7, _⟩ := spot0 (by omega)
      subst h7
      refine ⟨cs', by rw [hl3, hs], fun j hj => ?_, by simpa [h5] using h6⟩
      rw [← hs] at hj
      rw [← hc j hj]
      congr 1
      rw [hs]
      unfold Addr.add
      by_cases e1 : i * E.size = 0 <;> by_cases e2 : j = 0 <;> simp [e1, e2]

/-- From field i on (offset o): the rest of a struct. -/
structure OpensFrom (P : Program) (fs : Array Field) (i o : Nat) {α : Type} (E : Enc α) : Prop where
  h : ∀ {H : Type} {enc : TypeId × Value → H} {w : World} {base : Nat} {spare : Nat → Bool} {held : Bool} {m : Nat} {cs : List Value},
    cs.length = o + E.size → (∀ k f, i ≤ k → fs[k]? = some f → ∃ y, DataW.trod enc P w base spare held m f.type ((cs.drop f.offset).take (P.cellsOf f.type)) = some y ∧ Light P f.type y.1) → ∃ a, E.R (fun b => b < w.heap.size) w (cs.drop o) a

theorem OpensFrom.last {P : Program} {fs : Array Field} {i o : Nat} {α : Type} {E : Enc α} {f : Field} (hf : fs[i]? = some f) (ho : f.offset = o) (hc : P.cellsOf f.type = E.size) (hO : Opens P f.type E) : OpensFrom P fs i o E := by
  constructor
  intro H enc w base spare held m cs hl h
  obtain ⟨y, hy, hlt⟩ := h i f (Nat.le_refl _) hf
  rw [ho, List.take_of_length_le (by rw [List.length_drop]; omega)] at hy
  exact hO.h hy hlt
theorem OpensFrom.cons {P : Program} {fs : Array Field} {i o : Nat} {α β : Type} {E : Enc α} {E' : Enc β} {f : Field} (hf : fs[i]? = some f) (ho : f.offset = o) (hc : P.cellsOf f.type = E.size) (hO : Opens P f.type E) (hT : OpensFrom P fs (i + 1) (o + E.size) E') : OpensFrom P fs i o (E.prod E') := by
  constructor
  intro H enc w base spare held m cs hl h
  obtain ⟨y, hy, hlt⟩ := h i f (Nat.le_refl _) hf
  rw [ho, hc] at hy
  obtain ⟨a, ha⟩ := hO.h hy hlt
  obtain ⟨b, hb⟩ := hT.h (by rw [hl]; simp only [Enc.prod]; omega) fun k f hk hf => h k f (by omega) hf
  refine ⟨(a, b), _, _, ?_, ha, hb⟩
  rw [← List.drop_drop, List.take_append_drop]
theorem Opens.struct {P : Program} {t : TypeId} {fs : Array Field} {α : Type} {E : Enc α} (ht : P.underlying t = some (.struct fs)) (hc : P.cellsOf t = E.size) (h : OpensFrom P fs 0 0 E) : Opens P t E := by
  constructor
  intro H enc w base spare held fuel cs x hx hl
  obtain ⟨xs, n, _, hx1, hlen, hfs, hel⟩ := DataW.trod_struct ht hx
  have := h.h (m := n) (cs := cs) (by rw [hlen, hc, Nat.zero_add]) fun k f _ hf => by
    have hk : k < fs.size := (Array.getElem?_eq_some_iff.1 hf).1
    have h1 := hel k f hf
    rw [List.getElem?_eq_getElem (by omega)] at h1
    refine ⟨_, h1, fun m hm => hl m ?_⟩
    have e : x.1.weights P t = DataW.weightsEach P (fs.toList.map (·.type)) (xs.map (·.1)) := by rw [hx1, DataW.weights, ht]
    rw [e]
    exact DataW.weights_mem_each (j := k) (t := f.type) (by simp [hf]) (by rw [List.getElem?_map, List.getElem?_eq_getElem (by omega)]; rfl) m hm
  exact this

/-- An argument. -/
theorem open_arg {P : Program} {t : TypeId} {α : Type} {E : Enc α} (hO : Opens P t E) {H : Type} {enc : TypeId × Value → H} {w : World} {base : Nat} {spare : Nat → Bool} {held : Bool} {v : Value} {d : DataW H} {p : List MemPlace} (h : DataW.Trod enc P w base spare held t v d p) (hl : Light P t d) : ∃ a, Rd E (fun b => b < w.heap.size) w v a := by
  obtain ⟨fuel, hf⟩ := h
  exact hO.h hf hl
theorem light_of {H : Type} {P : Program} {ts : List TypeId} {ds : List (DataW H)} (h : (DataW.weightsEach P ts ds).all (· ≤ reachBytes) = true) {j : Nat} {t : TypeId} {d : DataW H} (ht : ts[j]? = some t) (hd : ds[j]? = some d) : Light P t d := fun n hn => by
  have := List.all_eq_true.1 h n (DataW.weights_mem_each ht hd n hn)
  simpa using this
theorem wf64 {n : Int} (h : (Lit.int .i64 n).wf = true) : -9223372036854775808 ≤ n ∧ n ≤ 9223372036854775807 := by
  simpa [Lit.wf, IntKind.min, IntKind.max, IntKind.signed, IntKind.bits] using h
end Go.Proofs.YtlgabpcddldelaaDoor
