/-
  What comes in, opened up to a depth; trees. (A helper text; it claims nothing of the program.)
-/
import Derived.Test.YtlgabpcddldelaaDoorSepAll
namespace Go.Proofs.YtlgabpcddldelaaDoor
set_option linter.unusedVariables false
open Go.ChangeShapes Go.WideShapes Go.ChangeAt Go.RowKit

/-- Whatever is read at type t, no deeper than f, reads as E says. -/
structure OpensF (f : Nat) (P : Program) (t : TypeId) {α : Type} (E : Enc α) : Prop where
  h : ∀ {H : Type} {enc : TypeId × Value → H} {w : World} {base : Nat} {spare : Nat → Bool} {held : Bool} {fuel : Nat} {cs : List Value} {x : DataW H × List MemPlace},
    fuel ≤ f → DataW.trod enc P w base spare held fuel t cs = some x → Light P t x.1 → ∃ a, E.R (fun b => b < w.heap.size) w cs a


theorem OpensF.sl {f : Nat} {P : Program} {t e : TypeId} {α : Type} {E : Enc α} {bytes : Nat} (ht : P.underlying t = some (.slice e)) (hs : P.cellsOf e = E.size) (hp : 0 < E.size) (hby : P.bytesOf e = bytes) (hE : OpensF f P e E) : OpensF (f + 1) P t (Enc.sl E bytes) := by
  constructor
  intro H enc w base spare held fuel cs x hff h hl
  rcases DataW.trod_slice ht h with ⟨h0, _⟩ | ⟨a, len, cap, elems, rest, n, hfn, rfl, hx, hb, hlc, hm, hlen, hel, hrl, _⟩
  · subst h0
    exact ⟨[], none, 0, 0, 0, rfl, Nat.le_refl _, by decide, by simp, fun _ => rfl, fun h => by simp at h, fun i hi => by simp at hi⟩
  · subst hby
    obtain ⟨b, off, spot⟩ := a
    have hwt : x.1.weights P t = ((elems.map (·.1)).length + (rest.map (·.1)).length) * P.bytesOf e :: (DataW.weightsAll P e (elems.map (·.1)) ++ DataW.weightsAll P e (rest.map (·.1))) := by
      rw [hx, DataW.weights, ht]
    have hw : (elems.length : Int) * (P.bytesOf e : Int) ≤ 140737488355328 := by
      have := hl (((elems.map (·.1)).length + (rest.map (·.1)).length) * P.bytesOf e) (by rw [hwt]; exact .head _)
      unfold reachBytes at this
      rw [List.length_map, Nat.add_mul] at this
      have h3 := Nat.le_trans (Nat.le_add_right _ _) this
      clear this
      rw [← Int.natCast_mul]
      omega
    have light : ∀ i (hi : i < elems.length), Light P e (elems[i]).1 := by
      intro i hi m hm2
      refine hl m ?_
      rw [hwt]
      refine .tail _ (List.mem_append.2 (.inl ?_))
      have hmem : (elems[i]).1 ∈ elems.map (·.1) := List.mem_map.2 ⟨_, List.getElem_mem hi, rfl⟩
      clear hw hl hel hlen hx hwt
      generalize elems.map (·.1) = L at hmem
      induction L with
      | nil => cases hmem
      | cons d r ih =>
        rw [DataW.weightsAll, List.mem_append]
        rcases List.mem_cons.1 hmem with h | h
        · rw [← h]; exact .inl hm2
        · exact .inr (ih h)
    have each : ∀ i, i < len → ∃ q : α × List Value, (∃ cs', w.cells? base ((⟨b, off, spot⟩ : Addr).add (i * P.cellsOf e)) (P.cellsOf e) = some cs' ∧ q.2 = cs' ∧ E.R (fun b => b < w.heap.size) w cs' q.1) := by
      intro i hi
      have h1 := hel i hi
      rw [List.getElem?_eq_getElem (by omega)] at h1
      obtain ⟨cs', h2, h3⟩ := Option.bind_eq_some_iff.1 h1
      obtain ⟨hbb, hl2, _⟩ := World.cells?_some h2
      obtain ⟨a, ha⟩ := hE.h (by omega) h3 (light i (by omega))
      exact ⟨(a, cs'), cs', h2, rfl, ha⟩
    obtain ⟨l, hl1, hl2⟩ := list_of_each each
    have spot0 : 0 < len → spot = none ∧ b < w.heap.size := by
      intro hpos
      obtain ⟨cs0, g2, _, _⟩ := hl2 0 (by omega)
      obtain ⟨_, g3, gc⟩ := World.cells?_some g2
      have h0 := gc 0 (by omega)
      rw [List.getElem?_eq_getElem (by omega)] at h0
      have hz : ((⟨b, off, spot⟩ : Addr).add (0 * P.cellsOf e)).add 0 = ⟨b, off, spot⟩ := by simp [Addr.add]
      rw [hz] at h0
      exact ⟨World.cell?_spot h0, World.block_lt_of_cell? w _ h0⟩
    refine ⟨l.map (·.1), some ⟨b, off, spot⟩, b, off, cap, by simp [hl1], by simp [hl1]; omega, hm, ?_, (fun h => by cases h), fun hpos => ?_, fun i hi => ?_⟩
    · rw [List.length_map, hl1, ← hlen]
      exact hw
    · have hi0 : 0 < l.length := by simpa using hpos
      obtain ⟨h1, h2⟩ := spot0 (by omega)
      subst h1
      exact ⟨rfl, h2, h2⟩
    · have hi0 : i < l.length := by simpa using hi
      obtain ⟨cs', h2, h5, h6⟩ := hl2 i hi0
      obtain ⟨_, hl3, hc⟩ := World.cells?_some h2
      obtain ⟨h7, _⟩ := spot0 (by omega)
      subst h7
      refine ⟨cs', by rw [hl3, hs], fun j hj => ?_, by simpa [h5] using h6⟩
      rw [← hs] at hj
      rw [← hc j hj]
      congr 1
      rw [hs]
      unfold Addr.add
      by_cases e1 : i * E.size = 0 <;> by_cases e2 : j = 0 <;> simp [e1, e2]

/-- From field i on, no deeper than F. -/
structure OpensFromF (F : Nat) (P : Program) (fs : Array Field) (i o : Nat) {α : Type} (E : Enc α) : Prop where
  h : ∀ {H : Type} {enc : TypeId × Value → H} {w : World} {base : Nat} {spare : Nat → Bool} {held : Bool} {m : Nat} {cs : List Value},
    m ≤ F → cs.length = o + E.size → (∀ k f, i ≤ k → fs[k]? = some f → ∃ y, DataW.trod enc P w base spare held m f.type ((cs.drop f.offset).take (P.cellsOf f.type)) = some y ∧ Light P f.type y.1) → ∃ a, E.R (fun b => b < w.heap.size) w (cs.drop o) a

theorem OpensFromF.last {F : Nat} {P : Program} {fs : Array Field} {i o : Nat} {α : Type} {E : Enc α} {f : Field} (hf : fs[i]? = some f) (ho : f.offset = o) (hc : P.cellsOf f.type = E.size) (hO : OpensF F P f.type E) : OpensFromF F P fs i o E := by
  constructor
  intro H enc w base spare held m cs hmf hl h
  obtain ⟨y, hy, hlt⟩ := h i f (Nat.le_refl _) hf
  rw [ho, List.take_of_length_le (by rw [List.length_drop]; omega)] at hy
  exact hO.h hmf hy hlt
theorem OpensFromF.cons {F : Nat} {P : Program} {fs : Array Field} {i o : Nat} {α β : Type} {E : Enc α} {E' : Enc β} {f : Field} (hf : fs[i]? = some f) (ho : f.offset = o) (hc : P.cellsOf f.type = E.size) (hO : OpensF F P f.type E) (hT : OpensFromF F P fs (i + 1) (o + E.size) E') : OpensFromF F P fs i o (E.prod E') := by
  constructor
  intro H enc w base spare held m cs hmf hl h
  obtain ⟨y, hy, hlt⟩ := h i f (Nat.le_refl _) hf
  rw [ho, hc] at hy
  obtain ⟨a, ha⟩ := hO.h hmf hy hlt
  obtain ⟨b, hb⟩ := hT.h hmf (by rw [hl]; simp only [Enc.prod]; omega) fun k f hk hf => h k f (by omega) hf
  refine ⟨(a, b), _, _, ?_, ha, hb⟩
  rw [← List.drop_drop, List.take_append_drop]
theorem OpensF.struct {F : Nat} {P : Program} {t : TypeId} {fs : Array Field} {α : Type} {E : Enc α} (ht : P.underlying t = some (.struct fs)) (hc : P.cellsOf t = E.size) (h : OpensFromF F P fs 0 0 E) : OpensF (F + 1) P t E := by
  constructor
  intro H enc w base spare held fuel cs x hff hx hl
  obtain ⟨xs, n, hfn, hx1, hlen, hfs, hel⟩ := DataW.trod_struct ht hx
  have := h.h (m := n) (by omega) (cs := cs) (by rw [hlen, hc, Nat.zero_add]) fun k f _ hf => by
    have hk : k < fs.size := (Array.getElem?_eq_some_iff.1 hf).1
    have h1 := hel k f hf
    rw [List.getElem?_eq_getElem (by omega)] at h1
    refine ⟨_, h1, fun m hm => hl m ?_⟩
    have e : x.1.weights P t = DataW.weightsEach P (fs.toList.map (·.type)) (xs.map (·.1)) := by rw [hx1, DataW.weights, ht]
    rw [e]
    exact DataW.weights_mem_each (j := k) (t := f.type) (by simp [hf]) (by rw [List.getElem?_map, List.getElem?_eq_getElem (by omega)]; rfl) m hm
  exact this

theorem Opens.upto {P : Program} {t : TypeId} {α : Type} {E : Enc α} (h : Opens P t E) (f : Nat) : OpensF f P t E := ⟨fun _ hx hl => h.h hx hl⟩
theorem OpensF.le {f g : Nat} {P : Program} {t : TypeId} {α : Type} {E : Enc α} (h : OpensF f P t E) (hg : g ≤ f) : OpensF g P t E := ⟨fun hf hx hl => h.h (Nat.le_trans hf hg) hx hl⟩

/-- A tree: production, token, kids. -/
inductive Tr where
  | mk : Int → Int → List Tr → Tr
namespace Tr
def prod : Tr → Int | .mk p _ _ => p
def tok : Tr → Int | .mk _ k _ => k
def kids : Tr → List Tr | .mk _ _ l => l
def parts (t : Tr) : Int × Int × List Tr := (t.prod, t.tok, t.kids)
def noEnc : Enc Tr := ⟨3, fun _ _ _ _ => False, fun h => h.elim, fun h _ _ => h⟩
/-- Trees no taller than n. -/
def enc : Nat → Enc Tr
  | 0 => noEnc
  | n + 1 => (Enc.prod (Enc.int .i64) (Enc.prod (Enc.int .i64) ((enc n).sl 40))).via parts
theorem enc_size : ∀ n, (enc n).size = 3
  | 0 => rfl
  | n + 1 => rfl
theorem enc_up {n : Nat} : ∀ {F : Nat → Prop} {w : World} {cs : List Value} {t : Tr}, (enc n).R F w cs t → (enc (n + 1)).R F w cs t := by
  induction n with
  | zero => intro F w cs t h; exact h.elim
  | succ n ih =>
    intro F w cs t h
    obtain ⟨c1, c2, rfl, h1, c3, c4, rfl, h2, ao, b, off, cap, e0, e1, e2, e3, e4, e5, e6⟩ := h
    refine ⟨c1, c3 ++ c4, rfl, h1, c3, c4, rfl, h2, ao, b, off, cap, e0, e1, e2, e3, e4, e5, fun i hi => ?_⟩
    obtain ⟨cs, g1, g2, g3⟩ := e6 i hi
    rw [enc_size] at g1 g2
    exact ⟨cs, by rw [enc_size]; exact g1, by rw [enc_size]; exact g2, ih g3⟩
end Tr
theorem opens_tree {P : Program} {t ts : TypeId} {f0 f1 f2 : Field} (ht : P.underlying t = some (.struct #[f0, f1, f2])) (hts : P.underlying f2.type = some (.slice t)) (hc : P.cellsOf t = 3) (hby : P.bytesOf t = 40) (o0 : f0.offset = 0) (o1 : f1.offset = 1) (o2 : f2.offset = 2)
    (c0 : P.cellsOf f0.type = 1) (c1 : P.cellsOf f1.type = 1) (c2 : P.cellsOf f2.type = 1) (k0 : P.underlying f0.type = some (.int .i64)) (k1 : P.underlying f1.type = some (.int .i64)) : ∀ f, OpensF f P t (Tr.enc f) := by
  intro f
  induction f with
  | zero =>
    constructor
    intro H enc w base spare held fuel cs x hf h _
    obtain rfl : fuel = 0 := by omega
    simp [DataW.trod] at h
  | succ f ih =>
    have h2 : OpensF f P f2.type ((Tr.enc f).sl 40) := ((OpensF.sl hts (by rw [hc, Tr.enc_size]) (by rw [Tr.enc_size]; decide) hby ih).le (Nat.le_succ f))
    have hs := OpensF.struct (E := Enc.prod (Enc.int .i64) (Enc.prod (Enc.int .i64) ((Tr.enc f).sl 40))) ht (by rw [hc]; rfl) (OpensFromF.cons (f := f0) rfl o0 c0 ((Opens.int k0).upto f) (OpensFromF.cons (f := f1) rfl o1 c1 ((Opens.int k1).upto f) (OpensFromF.last (f := f2) rfl o2 c2 h2)))
    constructor
    intro H enc w base spare held fuel cs x hf h hl
    obtain ⟨⟨p, k, l⟩, ha⟩ := hs.h hf h hl
    exact ⟨.mk p k l, ha⟩
end Go.Proofs.YtlgabpcddldelaaDoor
