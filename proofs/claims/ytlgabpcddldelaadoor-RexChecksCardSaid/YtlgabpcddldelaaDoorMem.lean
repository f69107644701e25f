/-
  Memory that a call makes itself: slices as lists of elements. Laws for append, for reading, for a text made of bytes. (A helper text; it claims nothing of the program.)
-/
import Derived.Test.YtlgabpcddldelaaDoorRows
import Derived.WalkKit
import Derived.ProofKit
import Derived.OpenShut
import Derived.ShutString
import Derived.Lib.Hide
import Derived.Outline
import Derived.WalkLawsBesides
import Derived.WalkSpells
import Derived.Laws.BitsAllLaws
import Derived.Laws.BytesArg
import Derived.Deep.QuietTactic
import Derived.BigQuiet
import Derived.Deep.DeepFit
import Derived.Deep.RegionWith
import Derived.Deep.RegionHeld3
import Derived.StillTailTactics
import Derived.Deep.LoopGhost
import Derived.Lib.AppendStr
import Derived.Lib.SmallJoins
import Derived.ChangeOld
import Derived.Deep.Slices
namespace Go.Proofs.YtlgabpcddldelaaDoor
set_option linter.unusedVariables false
open Go.ChangeShapes Go.WideShapes Go.ChangeAt Go.RowKit

theorem ret_int {k : IntKind} {a b : Int} (h : a = b) : Ending.returned (.int k a) = .returned (.int k b) := by rw [h]
theorem int_eq {k : IntKind} {a b : Int} (h : a = b) : Value.int k a = .int k b := by rw [h]

/-- A slice type t with elements of type e, each of 'size' cells and 'bytes' bytes. -/
structure ET (P : Program) (t e : TypeId) (size bytes : Nat) : Prop where
  ht : P.underlying t = some (.slice e)
  info : ∃ i z, P.info? e = some i ∧ i.zero = some z ∧ i.size = size ∧ i.bytes = bytes ∧ z.cells.size = size
  pos : 0 < size

theorem ET.mk' {P : Program} {t e : TypeId} {size bytes : Nat} {z : Value} (ht : P.underlying t = some (.slice e))
    (h : (P.info? e).map (fun i => (i.zero, i.size, i.bytes)) = some (some z, size, bytes)) (hz : z.cells.size = size) (hp : 0 < size) : ET P t e size bytes := by
  obtain ⟨i, h1, h2, h3, h4⟩ := info_parts h
  exact ⟨ht, ⟨i, z, h1, h2, h3, h4, hz⟩, hp⟩

def cellsOf (xs : List Value) : List Value := xs.flatMap fun v => v.cells.toList

/-- The slice value v, made by the call itself (its block is B or above), holds just the elements xs. -/
def Own (w : World) (B : Nat) (e : TypeId) (size : Nat) (v : Value) (xs : List Value) : Prop :=
  w.ownsRow B e size v xs.length (cellsOf xs)

theorem cellsOf_append (xs ys : List Value) : cellsOf (xs ++ ys) = cellsOf xs ++ cellsOf ys := by simp [cellsOf]
theorem cellsOf_ints (k : IntKind) (xs : List Int) : cellsOf (xs.map (Value.int k)) = xs.map (Value.int k) := by
  induction xs with
  | nil => rfl
  | cons x xs ih => simpa [cellsOf, Value.cells] using ih

section
variable {w : World} {B : Nat} {e : TypeId} {size : Nat} {v : Value} {xs : List Value}
theorem Own.nil (w : World) (B : Nat) (e : TypeId) (size : Nat) : Own w B e size (.slice none 0 0) [] := World.ownsRow_nil _ _ _ _
theorem Own.alloc (h : Own w B e size v xs) (o : Obj) : Own (w.alloc o) B e size v xs := World.ownsRow.alloc h o
theorem Own.drew (h : Own w B e size v xs) : Own w.drew B e size v xs := h
theorem Own.kept {w' : World} {row : Option Nat} (h : Own w B e size v xs) (hg : w.grownBy w' row) (hne : v.ownBlock = none ∨ v.ownBlock ≠ row) : Own w' B e size v xs := World.ownsRow.kept h hg hne
theorem Own.lt (h : Own w B e size v xs) : ∀ k, v.ownBlock = some k → B ≤ k ∧ k < w.heap.size := World.ownsRow.lt h
/-- The shape of the value. -/
theorem Own.shape (h : Own w B e size v xs) : (v = .slice none 0 0 ∧ xs = []) ∨ ∃ g cap, v = .slice (some ⟨g, 0, none⟩) xs.length cap ∧ B ≤ g ∧ g < w.heap.size := by
  rcases h.2 with ⟨h1, h2⟩ | ⟨g, cap, cur, h1, h2, h3, _⟩
  · exact .inl ⟨h1, List.eq_nil_of_length_eq_zero h2⟩
  · exact .inr ⟨g, cap, h1, h2, (Array.getElem?_eq_some_iff.1 h3).1⟩
/-- Below a block number that is no greater than the slice's own nothing of it lies: a world that is the same from the block up to 'B2' keeps it. -/
theorem Own.below {w' : World} {B2 : Nat} (h : Own w B e size v xs) (hb : Below B2 w w') (hlt : ∀ k, v.ownBlock = some k → k < B2) : Own w' B e size v xs := by
  refine ⟨h.1, ?_⟩
  rcases h.2 with hn | ⟨g, cap, cur, rfl, hB, hgg, rest⟩
  · exact .inl hn
  · refine .inr ⟨g, cap, cur, rfl, hB, ?_, rest⟩
    rw [hb.block g (hlt g rfl)]
    exact hgg
theorem Own.len {g n cap : Nat} (h : Own w B e size (.slice (some ⟨g, 0, none⟩) n cap) xs) : n = xs.length := by
  rcases h.2 with ⟨h1, _⟩ | ⟨g', cap', cur, h1, _⟩
  · cases h1
  · simp only [Value.slice.injEq] at h1; exact h1.2.1
theorem Own.call {w' : World} (h : Own w B e size v xs) (hb : Below w.heap.size w w') : Own w' B e size v xs :=
  h.below hb fun k hk => (h.lt k hk).2
end

theorem oneCells (u : Value) : cellsOf [u] = u.cells.toList := by simp [cellsOf]

/-- append(s, u): one element more. -/
theorem app1 {P : Program} {w : World} {t e : TypeId} {size bytes : Nat} (E : ET P t e size bytes) {ops : Array Oper} {rest : List Oper} {o : Oper} {a : Act} {Q : Exit → Act → World → Prop}
    (hgd : o.guard = none) (s x : Operand)
    (ho : o.op = .call { callee := .builtin .append, args := #[s, x], argTypes := #[t, t] }) (B : Nat) {v : Value} (xs : List Value)
    (hs : a.eval s = v) (hown : Own w B e size v xs) (u : Value) (g c : Nat) (hx : a.eval x = .slice (some ⟨g, 0, none⟩) 1 c)
    (hu : ∀ j q, u.cells.toList[j]? = some q → w.cell? ⟨g, j, none⟩ = some q) (hsz : u.cells.toList.length = size) (h1 : ∀ q ∈ u.cells.toList, q.oneCell' = true)
    (hroom : (xs.length + 1) * bytes ≤ 140737488355328) (hlen : xs.length + 1 ≤ maxLen) (hB : B ≤ w.heap.size)
    (h : ∀ g' n' cap w', Own w' B e size (.slice (some ⟨g', 0, none⟩) n' cap) (xs ++ [u]) → w.grownBy w' v.ownBlock → B ≤ g' → g' < w'.heap.size →
      wpList P ops Q rest (a.put o.dst (.slice (some ⟨g', 0, none⟩) n' cap)) w') : wpList P ops Q (o :: rest) a w := by
  obtain ⟨ht, ⟨i, z, hi, hz, hsize, hby, hzs⟩, hp⟩ := E
  refine wpList_append_own w hgd s x t ho B e i z size bytes ht hi hz hsize hby hzs hp v xs.length (cellsOf xs) hs hown ⟨g, 0, none⟩ 1 c u.cells.toList hx (by omega) ?_ h1 hlen hroom hB ?_
  · intro j q hq
    have hadd : (⟨g, 0, none⟩ : Addr).add j = ⟨g, j, none⟩ := by unfold Addr.add; split <;> simp_all
    rw [hadd]
    exact hu j q hq
  · intro v' w' hown' hgrow hnil
    have hown2 : Own w' B e size v' (xs ++ [u]) := by
      unfold Own
      rw [cellsOf_append, oneCells u, List.length_append]
      exact hown'
    rcases hown2.shape with ⟨h1, h2⟩ | ⟨g', cap, h1, h2, h3⟩
    · simp at h2
    · subst h1
      exact h g' _ cap w' hown2 hgrow h2 h3

/-- append(s, c) of a number. -/
theorem app1i {P : Program} {w : World} {t e : TypeId} {bytes : Nat} (E : ET P t e 1 bytes) {ops : Array Oper} {rest : List Oper} {o : Oper} {a : Act} {Q : Exit → Act → World → Prop}
    (hgd : o.guard = none) (s x : Operand)
    (ho : o.op = .call { callee := .builtin .append, args := #[s, x], argTypes := #[t, t] }) (B : Nat) {v : Value} {k : IntKind} (xs : List Int)
    (hs : a.eval s = v) (hown : Own w B e 1 v (xs.map (Value.int k))) (n : Int) (g c : Nat) (hx : a.eval x = .slice (some ⟨g, 0, none⟩) 1 c)
    (hu : w.cell? ⟨g, 0, none⟩ = some (.int k n)) (hroom : (xs.length + 1) * bytes ≤ 140737488355328) (hlen : xs.length + 1 ≤ maxLen) (hB : B ≤ w.heap.size)
    (h : ∀ g' n' cap w', Own w' B e 1 (.slice (some ⟨g', 0, none⟩) n' cap) ((xs ++ [n]).map (Value.int k)) → w.grownBy w' v.ownBlock → B ≤ g' → g' < w'.heap.size →
      wpList P ops Q rest (a.put o.dst (.slice (some ⟨g', 0, none⟩) n' cap)) w') : wpList P ops Q (o :: rest) a w := by
  refine app1 E hgd s x ho B (xs.map (Value.int k)) hs hown (.int k n) g c hx ?_ rfl ?_ (by simpa using hroom) (by simpa using hlen) hB ?_
  · intro j q hq
    match j, hq with
    | 0, hq => simp [Value.cells] at hq; subst hq; exact hu
    | j + 1, hq => simp [Value.cells] at hq
  · intro q hq; simp [Value.cells] at hq; subst hq; rfl
  · intro g' n' cap w' h1 h2 h3 h4
    refine h g' n' cap w' ?_ h2 h3 h4
    rw [List.map_append]; exact h1

theorem cell_new (w : World) (v : Value) (T : TypeId) : (w.alloc (.cells #[v] T)).cell? ⟨w.heap.size, 0, none⟩ = some v := by
  rw [World.cell?_alloc_new]; rfl

/-- string(b), of bytes that the call itself has gathered. -/
theorem str_of_own {P : Program} {w : World} {src e dst : TypeId} {B : Nat} {g n cap : Nat} (hs : P.underlying src = some (.slice e)) (he : P.underlying e = some (.int .u8)) (hd : P.underlying dst = some .string)
    (xs : List Int) (h : Own w B e 1 (.slice (some ⟨g, 0, none⟩) n cap) (xs.map (Value.int .u8))) :
    (convert src dst (.slice (some ⟨g, 0, none⟩) n cap)).run P w = .ok (.string (strOfNums xs)) w := by
  have hn : n = xs.length := by
    rcases h.2 with ⟨h1, _⟩ | ⟨g', cap', cur, h1, _⟩
    · cases h1
    · simp only [Value.slice.injEq] at h1; simpa using h1.2.1
  subst hn
  have hr : w.ownsRow B e 1 (.slice (some ⟨g, 0, none⟩) xs.length cap) xs.length (xs.map (Value.int .u8)) := by
    have := h
    unfold Own at this
    rw [cellsOf_ints, List.length_map] at this
    exact this
  refine run_convert_bytes_arg w src e hs he g 0 xs.length cap xs rfl (fun i hi => ?_) dst hd
  rw [Nat.zero_add, hr.cellAt i (by omega)]
  simp [List.getD, List.getElem?_eq_getElem hi]

/-- string([]byte{c}): the one cell. -/
theorem str_of_one {P : Program} {src e dst : TypeId} (hs : P.underlying src = some (.slice e)) (he : P.underlying e = some (.int .u8)) (hd : P.underlying dst = some .string)
    (c : Int) (b cap : Nat) (w : World) (h : w.cell? ⟨b, 0, none⟩ = some (.int .u8 c)) :
    (convert src dst (.slice (some ⟨b, 0, none⟩) 1 cap)).run P w = .ok (.string (strOfNums [c])) w := by
  refine run_convert_bytes_arg w src e hs he b 0 1 cap [c] rfl (fun i hi => ?_) dst hd
  obtain rfl : i = 0 := by omega
  exact h

theorem bcell {W w1 : World} (hb : Below W.heap.size W w1) : (∀ b o, b < W.heap.size → w1.cell? ⟨b, o, none⟩ = W.cell? ⟨b, o, none⟩) ∧ (∀ b o, b < W.heap.size → w1.frozen? ⟨b, o, none⟩ = W.frozen? ⟨b, o, none⟩) :=
  ⟨fun b o h => hb.cell (p := ⟨b, o, none⟩) h, fun b o h => hb.frozen (p := ⟨b, o, none⟩) h⟩
theorem bkeep {w w' : World} (hb : Below w.heap.size w w') {p : Addr} {c : Value} (h : w.cell? p = some c) : w'.cell? p = some c :=
  (hb.cell (World.block_lt_of_cell? w p h)).trans h

theorem cell_new_drew (w : World) (v : Value) (T : TypeId) : (w.alloc (.cells #[v] T)).drew.cell? ⟨w.heap.size, 0, none⟩ = some v := cell_new w v T
theorem strOfNums_cons (x : Int) (xs : List Int) : strOfNums (x :: xs) = strOfNums [x] ++ strOfNums xs := by
  apply ByteArray.ext
  simp [strOfNums, ByteArray.data_append]
theorem strOfNums_append (xs ys : List Int) : strOfNums (xs ++ ys) = ⟨(strOfNums xs).data ++ (strOfNums ys).data⟩ := by simp [strOfNums]

/-- The bytes of a text as numbers. -/
def strI (s : ByteArray) : List Int := s.data.toList.map fun b => (b.toNat : Int)
theorem strI_length (s : ByteArray) : (strI s).length = s.size := by simp [strI]
theorem strOfNums_strI (s : ByteArray) : strOfNums (strI s) = s := by
  apply ByteArray.ext
  simp [strOfNums, strI, Function.comp_def]
theorem strOfNums_app (xs ys : List Int) : strOfNums (xs ++ ys) = strOfNums xs ++ strOfNums ys := by
  apply ByteArray.ext
  simp [strOfNums, ByteArray.data_append]

/-- A slice that is written out. -/
theorem own_lit {w : World} {B n : Nat} {e : TypeId} {k : IntKind} (cs : Array Value) (xs : List Int) (hcs : cs.toList = xs.map (Value.int k)) (hn : n = xs.length) (hB : B ≤ w.heap.size) (hm : n ≤ maxLen) :
    Own (w.alloc (.cells cs e)) B e 1 (.slice (some ⟨w.heap.size, 0, none⟩) n n) (xs.map (Value.int k)) := by
  have hsz : cs.size = xs.length := by rw [← Array.length_toList, hcs, List.length_map]
  refine ⟨by rw [cellsOf_ints]; simp, .inr ⟨w.heap.size, n, cs, by rw [hn, List.length_map], hB, heap_alloc_new w _, by rw [hn, List.length_map]; exact Nat.le_refl _, hm, by omega, ?_⟩⟩
  rw [hcs, cellsOf_ints]
  exact List.take_of_length_le (by simp)

theorem cells_lit {w : World} (cs : Array Value) (T : TypeId) (j : Nat) (q : Value) (h : cs.toList[j]? = some q) : (w.alloc (.cells cs T)).cell? ⟨w.heap.size, j, none⟩ = some q := by
  rw [World.cell?_alloc_new]; simpa using h

/-- append(s, a, b, ..): some numbers more. -/
theorem appNi {P : Program} {w : World} {t e : TypeId} {bytes : Nat} (E : ET P t e 1 bytes) {ops : Array Oper} {rest : List Oper} {o : Oper} {a : Act} {Q : Exit → Act → World → Prop}
    (hgd : o.guard = none) (s x : Operand)
    (ho : o.op = .call { callee := .builtin .append, args := #[s, x], argTypes := #[t, t] }) (B : Nat) {v : Value} {k : IntKind} (xs news : List Int)
    (hs : a.eval s = v) (hown : Own w B e 1 v (xs.map (Value.int k))) (g m c : Nat) (hx : a.eval x = .slice (some ⟨g, 0, none⟩) m c) (hm : m = news.length)
    (hu : ∀ j q, (news.map (Value.int k))[j]? = some q → w.cell? ⟨g, j, none⟩ = some q) (hne : 0 < news.length) (hroom : (xs.length + news.length) * bytes ≤ 140737488355328) (hlen : xs.length + news.length ≤ maxLen) (hB : B ≤ w.heap.size)
    (h : ∀ g' n' cap w', Own w' B e 1 (.slice (some ⟨g', 0, none⟩) n' cap) ((xs ++ news).map (Value.int k)) → w.grownBy w' v.ownBlock → B ≤ g' → g' < w'.heap.size →
      wpList P ops Q rest (a.put o.dst (.slice (some ⟨g', 0, none⟩) n' cap)) w') : wpList P ops Q (o :: rest) a w := by
  obtain ⟨ht, ⟨i, z, hi, hz, hsize, hby, hzs⟩, hp⟩ := E
  subst hm
  refine wpList_append_own w hgd s x t ho B e i z 1 bytes ht hi hz hsize hby hzs hp v xs.length (xs.map (Value.int k)) hs (by have := hown; unfold Own at this; rw [cellsOf_ints, List.length_map] at this; exact this) ⟨g, 0, none⟩ news.length c (news.map (Value.int k)) hx (by simp) ?_ ?_ hlen hroom hB ?_
  · intro j q hq
    have hadd : (⟨g, 0, none⟩ : Addr).add j = ⟨g, j, none⟩ := by unfold Addr.add; split <;> simp_all
    rw [hadd]
    exact hu j q hq
  · intro q hq; simp only [List.mem_map] at hq; obtain ⟨n, _, rfl⟩ := hq; rfl
  · intro v' w' hown' hgrow hnil
    have hown2 : Own w' B e 1 v' ((xs ++ news).map (Value.int k)) := by
      unfold Own
      rw [cellsOf_ints, List.length_map, List.length_append, List.map_append]
      exact hown'
    rcases hown2.shape with ⟨h1, h2⟩ | ⟨g', cap, h1, h2, h3⟩
    · simp at h2; rw [h2.2] at hne; simp at hne
    · subst h1
      exact h g' _ cap w' hown2 hgrow h2 h3

/-- append(s, l...): whatever the list, also an empty one. -/
theorem appNg {P : Program} {w : World} {t e : TypeId} {bytes : Nat} (E : ET P t e 1 bytes) {ops : Array Oper} {rest : List Oper} {o : Oper} {a : Act} {Q : Exit → Act → World → Prop}
    (hgd : o.guard = none) (s x : Operand)
    (ho : o.op = .call { callee := .builtin .append, args := #[s, x], argTypes := #[t, t] }) (B : Nat) {v : Value} {k : IntKind} (xs news : List Int)
    (hs : a.eval s = v) (hown : Own w B e 1 v (xs.map (Value.int k))) (ad : Addr) (m c : Nat) (hx : a.eval x = .slice (some ad) m c) (hm : m = news.length)
    (hu : ∀ j q, (news.map (Value.int k))[j]? = some q → w.cell? (ad.add j) = some q) (hroom : (xs.length + news.length) * bytes ≤ 140737488355328) (hlen : xs.length + news.length ≤ maxLen) (hB : B ≤ w.heap.size)
    (h : ∀ v' w', Own w' B e 1 v' ((xs ++ news).map (Value.int k)) → w.grownBy w' v.ownBlock → wpList P ops Q rest (a.put o.dst v') w') : wpList P ops Q (o :: rest) a w := by
  obtain ⟨ht, ⟨i, z, hi, hz, hsize, hby, hzs⟩, hp⟩ := E
  subst hm
  refine wpList_append_own w hgd s x t ho B e i z 1 bytes ht hi hz hsize hby hzs hp v xs.length (xs.map (Value.int k)) hs (by have := hown; unfold Own at this; rw [cellsOf_ints, List.length_map] at this; exact this) ad news.length c (news.map (Value.int k)) hx (by simp) hu ?_ hlen hroom hB ?_
  · intro q hq; simp only [List.mem_map] at hq; obtain ⟨n, _, rfl⟩ := hq; rfl
  · intro v' w' hown' hgrow hnil
    refine h v' w' ?_ hgrow
    unfold Own
    rw [cellsOf_ints, List.length_map, List.length_append, List.map_append]
    exact hown'

/-- append(b, s...) of a text; b is not nil. -/
theorem appStr {P : Program} {w : World} {t u e : TypeId} {bytes : Nat} (E : ET P t e 1 bytes) (hby1 : bytes = 1) (hz0 : (P.info? e).map (fun i => i.zero) = some (some (.int .u8 0))) (htu : P.underlying u = some .string) {ops : Array Oper} {rest : List Oper} {o : Oper} {a : Act} {Q : Exit → Act → World → Prop}
    (hgd : o.guard = none) (sl x : Operand)
    (ho : o.op = .call { callee := .builtin .append, args := #[sl, x], argTypes := #[t, u] }) (B : Nat) {g0 n0 cap0 : Nat} (xs : List Int)
    (hs : a.eval sl = .slice (some ⟨g0, 0, none⟩) n0 cap0) (hown : Own w B e 1 (.slice (some ⟨g0, 0, none⟩) n0 cap0) (xs.map (Value.int .u8))) (s : ByteArray) (hx : a.eval x = .string s)
    (hroom : xs.length + s.size ≤ 140737488355328) (hB : B ≤ w.heap.size)
    (h : ∀ g' n' cap w', Own w' B e 1 (.slice (some ⟨g', 0, none⟩) n' cap) ((xs ++ strI s).map (Value.int .u8)) → w.grownBy w' (some g0) → B ≤ g' → g' < w'.heap.size →
      wpList P ops Q rest (a.put o.dst (.slice (some ⟨g', 0, none⟩) n' cap)) w') : wpList P ops Q (o :: rest) a w := by
  obtain ⟨ht, ⟨i, z, hi, hz, hsize, hby, hzs⟩, hp⟩ := E
  subst hby1
  rw [hi] at hz0
  have hz1 : i.zero = some (.int .u8 0) := by simpa using hz0
  refine Lib.wpList_append_own_string w hgd sl x t u ho B e i ht htu hi hz1 hsize hby _ xs.length (xs.map (Value.int .u8)) hs (by have := hown; unfold Own at this; rw [cellsOf_ints, List.length_map] at this; exact this) s hx (by unfold maxLen; omega) hroom hB ?_
  intro v' w' hown' hgrow hnil
  have hown2 : Own w' B e 1 v' ((xs ++ strI s).map (Value.int .u8)) := by
    unfold Own
    rw [cellsOf_ints, List.length_map, List.length_append, strI_length, List.map_append]
    have e2 : (strI s).map (Value.int .u8) = Lib.strCells s := by simp [strI, Lib.strCells, Function.comp_def]
    rw [e2]
    exact hown'
  rcases hown2.shape with ⟨h1, h2⟩ | ⟨g', cap, h1, h2, h3⟩
  · exact absurd (hnil.1 h1).1 (by simp)
  · subst h1
    exact h g' _ cap w' hown2 hgrow h2 h3

theorem intE : ET Tryd.prog 88 3 1 8 := ET.mk' Tryd.underlying88 (z := .int .i64 0) (by kernel_rfl) rfl (by decide)
theorem u8E : ET Tryd.prog 26 5 1 1 := ET.mk' Tryd.underlying26 (z := .int .u8 0) (by kernel_rfl) rfl (by decide)
end Go.Proofs.YtlgabpcddldelaaDoor
