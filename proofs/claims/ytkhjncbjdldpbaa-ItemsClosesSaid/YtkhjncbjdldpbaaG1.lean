/-
  Parts of the proof of ItemsCloses, put together: Mem OwnSet Read Sep Enc EncOps SepRd SepAt Sliced SepAll APair SepPick AllAt ItCube Pairs Gram Fc FcRd FcNum FcW FcBeg FcProg. (Helper texts.)
-/
import Derived.Test.YtkhjncbjdldpbaaRows
import Derived.WalkKit
import Derived.ProofKit
import Derived.OpenShut
import Derived.ShutString
import Derived.Lib.Hide
import Derived.Outline
import Derived.WalkLawsBesides
import Derived.WalkSpells
import Derived.Laws.BitsAllLaws
import Derived.Laws.BytesArg
import Derived.Deep.QuietTactic
import Derived.BigQuiet
import Derived.Deep.DeepFit
import Derived.Deep.RegionWith
import Derived.Deep.RegionHeld3
import Derived.StillTailTactics
import Derived.Deep.LoopGhost
import Derived.Lib.AppendStr
import Derived.Lib.SmallJoins
import Derived.ChangeOld
import Derived.Deep.Slices
import Derived.Deep.MidRow
import Derived.SizedLaws
import Derived.Deep.OwnRows
import Derived.Laws.AppendOwnNone
import Derived.Deep.DeepCutAuto
import Derived.Laws.Bits64b

/-
  Memory that a call makes itself: slices as lists of elements. Laws for append, for reading, for a text made of bytes. (A helper text; it claims nothing of the program.)
-/
namespace Go.Proofs.Ytkhjncbjdldpbaa
set_option linter.unusedVariables false
open Go.ChangeShapes Go.WideShapes Go.ChangeAt Go.RowKit

theorem ret_int {k : IntKind} {a b : Int} (h : a = b) : Ending.returned (.int k a) = .returned (.int k b) := by rw [h]
theorem int_eq {k : IntKind} {a b : Int} (h : a = b) : Value.int k a = .int k b := by rw [h]

/-- A slice type t with elements of type e, each of 'size' cells and 'bytes' bytes. -/
structure ET (P : Program) (t e : TypeId) (size bytes : Nat) : Prop where
  ht : P.underlying t = some (.slice e)
  info : ∃ i z, P.info? e = some i ∧ i.zero = some z ∧ i.size = size ∧ i.bytes = bytes ∧ z.cells.size = size
  pos : 0 < size

theorem ET.mk' {P : Program} {t e : TypeId} {size bytes : Nat} {z : Value} (ht : P.underlying t = some (.slice e))
    (h : (P.info? e).map (fun i => (i.zero, i.size, i.bytes)) = some (some z, size, bytes)) (hz : z.cells.size = size) (hp : 0 < size) : ET P t e size bytes := by
  obtain ⟨i, h1, h2, h3, h4⟩ := info_parts h
  exact ⟨ht, ⟨i, z, h1, h2, h3, h4, hz⟩, hp⟩

def cellsOf (xs : List Value) : List Value := xs.flatMap fun v => v.cells.toList

/-- The slice value v, made by the call itself (its block is B or above), holds just the elements xs. -/
def Own (w : World) (B : Nat) (e : TypeId) (size : Nat) (v : Value) (xs : List Value) : Prop :=
  w.ownsRow B e size v xs.length (cellsOf xs)

theorem cellsOf_append (xs ys : List Value) : cellsOf (xs ++ ys) = cellsOf xs ++ cellsOf ys := by simp [cellsOf]
theorem cellsOf_ints (k : IntKind) (xs : List Int) : cellsOf (xs.map (Value.int k)) = xs.map (Value.int k) := by
  induction xs with
  | nil => rfl
  | cons x xs ih => simpa [cellsOf, Value.cells] using ih

section
variable {w : World} {B : Nat} {e : TypeId} {size : Nat} {v : Value} {xs : List Value}
theorem Own.nil (w : World) (B : Nat) (e : TypeId) (size : Nat) : Own w B e size (.slice none 0 0) [] := World.ownsRow_nil _ _ _ _
theorem Own.alloc (h : Own w B e size v xs) (o : Obj) : Own (w.alloc o) B e size v xs := World.ownsRow.alloc h o
theorem Own.drew (h : Own w B e size v xs) : Own w.drew B e size v xs := h
theorem Own.kept {w' : World} {row : Option Nat} (h : Own w B e size v xs) (hg : w.grownBy w' row) (hne : v.ownBlock = none ∨ v.ownBlock ≠ row) : Own w' B e size v xs := World.ownsRow.kept h hg hne
theorem Own.lt (h : Own w B e size v xs) : ∀ k, v.ownBlock = some k → B ≤ k ∧ k < w.heap.size := World.ownsRow.lt h
/-- The shape of the value. -/
theorem Own.shape (h : Own w B e size v xs) : (v = .slice none 0 0 ∧ xs = []) ∨ ∃ g cap, v = .slice (some ⟨g, 0, none⟩) xs.length cap ∧ B ≤ g ∧ g < w.heap.size := by
  rcases h.2 with ⟨h1, h2⟩ | ⟨g, cap, cur, h1, h2, h3, _⟩
  · exact .inl ⟨h1, List.eq_nil_of_length_eq_zero h2⟩
  · exact .inr ⟨g, cap, h1, h2, (Array.getElem?_eq_some_iff.1 h3).1⟩
/-- Below a block number that is no greater than the slice's own nothing of it lies: a world that is the same from the block up to 'B2' keeps it. -/
theorem Own.below {w' : World} {B2 : Nat} (h : Own w B e size v xs) (hb : Below B2 w w') (hlt : ∀ k, v.ownBlock = some k → k < B2) : Own w' B e size v xs := by
  refine ⟨h.1, ?_⟩
  rcases h.2 with hn | ⟨g, cap, cur, rfl, hB, hgg, rest⟩
  · exact .inl hn
  · refine .inr ⟨g, cap, cur, rfl, hB, ?_, rest⟩
    rw [hb.block g (hlt g rfl)]
    exact hgg
theorem Own.len {g n cap : Nat} (h : Own w B e size (.slice (some ⟨g, 0, none⟩) n cap) xs) : n = xs.length := by
  rcases h.2 with ⟨h1, _⟩ | ⟨g', cap', cur, h1, _⟩
  · cases h1
  · simp only [Value.slice.injEq] at h1; exact h1.2.1
theorem Own.call {w' : World} (h : Own w B e size v xs) (hb : Below w.heap.size w w') : Own w' B e size v xs :=
  h.below hb fun k hk => (h.lt k hk).2
end

theorem oneCells (u : Value) : cellsOf [u] = u.cells.toList := by simp [cellsOf]

/-- append(s, u): one element more. -/
theorem app1 {P : Program} {w : World} {t e : TypeId} {size bytes : Nat} (E : ET P t e size bytes) {ops : Array Oper} {rest : List Oper} {o : Oper} {a : Act} {Q : Exit → Act → World → Prop}
    (hgd : o.guard = none) (s x : Operand)
    (ho : o.op = .call { callee := .builtin .append, args := #[s, x], argTypes := #[t, t] }) (B : Nat) {v : Value} (xs : List Value)
    (hs : a.eval s = v) (hown : Own w B e size v xs) (u : Value) (g c : Nat) (hx : a.eval x = .slice (some ⟨g, 0, none⟩) 1 c)
    (hu : ∀ j q, u.cells.toList[j]? = some q → w.cell? ⟨g, j, none⟩ = some q) (hsz : u.cells.toList.length = size) (h1 : ∀ q ∈ u.cells.toList, q.oneCell' = true)
    (hroom : (xs.length + 1) * bytes ≤ 140737488355328) (hlen : xs.length + 1 ≤ maxLen) (hB : B ≤ w.heap.size)
    (h : ∀ g' n' cap w', Own w' B e size (.slice (some ⟨g', 0, none⟩) n' cap) (xs ++ [u]) → w.grownBy w' v.ownBlock → B ≤ g' → g' < w'.heap.size →
      wpList P ops Q rest (a.put o.dst (.slice (some ⟨g', 0, none⟩) n' cap)) w') : wpList P ops Q (o :: rest) a w := by
  obtain ⟨ht, ⟨i, z, hi, hz, hsize, hby, hzs⟩, hp⟩ := E
  refine wpList_append_own w hgd s x t ho B e i z size bytes ht hi hz hsize hby hzs hp v xs.length (cellsOf xs) hs hown ⟨g, 0, none⟩ 1 c u.cells.toList hx (by omega) ?_ h1 hlen hroom hB ?_
  · intro j q hq
    have hadd : (⟨g, 0, none⟩ : Addr).add j = ⟨g, j, none⟩ := by unfold Addr.add; split <;> simp_all
    rw [hadd]
    exact hu j q hq
  · intro v' w' hown' hgrow hnil
    have hown2 : Own w' B e size v' (xs ++ [u]) := by
      unfold Own
      rw [cellsOf_append, oneCells u, List.length_append]
      exact hown'
    rcases hown2.shape with ⟨h1, h2⟩ | ⟨g', cap, h1, h2, h3⟩
    · simp at h2
    · subst h1
      exact h g' _ cap w' hown2 hgrow h2 h3

/-- append(s, c) of a number. -/
theorem app1i {P : Program} {w : World} {t e : TypeId} {bytes : Nat} (E : ET P t e 1 bytes) {ops : Array Oper} {rest : List Oper} {o : Oper} {a : Act} {Q : Exit → Act → World → Prop}
    (hgd : o.guard = none) (s x : Operand)
    (ho : o.op = .call { callee := .builtin .append, args := #[s, x], argTypes := #[t, t] }) (B : Nat) {v : Value} {k : IntKind} (xs : List Int)
    (hs : a.eval s = v) (hown : Own w B e 1 v (xs.map (Value.int k))) (n : Int) (g c : Nat) (hx : a.eval x = .slice (some ⟨g, 0, none⟩) 1 c)
    (hu : w.cell? ⟨g, 0, none⟩ = some (.int k n)) (hroom : (xs.length + 1) * bytes ≤ 140737488355328) (hlen : xs.length + 1 ≤ maxLen) (hB : B ≤ w.heap.size)
    (h : ∀ g' n' cap w', Own w' B e 1 (.slice (some ⟨g', 0, none⟩) n' cap) ((xs ++ [n]).map (Value.int k)) → w.grownBy w' v.ownBlock → B ≤ g' → g' < w'.heap.size →
      wpList P ops Q rest (a.put o.dst (.slice (some ⟨g', 0, none⟩) n' cap)) w') : wpList P ops Q (o :: rest) a w := by
  refine app1 E hgd s x ho B (xs.map (Value.int k)) hs hown (.int k n) g c hx ?_ rfl ?_ (by simpa using hroom) (by simpa using hlen) hB ?_
  · intro j q hq
    match j, hq with
    | 0, hq => simp [Value.cells] at hq; subst hq; exact hu
    | j + 1, hq => simp [Value.cells] at hq
  · intro q hq; simp [Value.cells] at hq; subst hq; rfl
  · intro g' n' cap w' h1 h2 h3 h4
    refine h g' n' cap w' ?_ h2 h3 h4
    rw [List.map_append]; exact h1

theorem cell_new (w : World) (v : Value) (T : TypeId) : (w.alloc (.cells #[v] T)).cell? ⟨w.heap.size, 0, none⟩ = some v := by
  rw [World.cell?_alloc_new]; rfl

/-- string(b), of bytes that the call itself has gathered. -/
theorem str_of_own {P : Program} {w : World} {src e dst : TypeId} {B : Nat} {g n cap : Nat} (hs : P.underlying src = some (.slice e)) (he : P.underlying e = some (.int .u8)) (hd : P.underlying dst = some .string)
    (xs : List Int) (h : Own w B e 1 (.slice (some ⟨g, 0, none⟩) n cap) (xs.map (Value.int .u8))) :
    (convert src dst (.slice (some ⟨g, 0, none⟩) n cap)).run P w = .ok (.string (strOfNums xs)) w := by
  have hn : n = xs.length := by
    rcases h.2 with ⟨h1, _⟩ | ⟨g', cap', cur, h1, _⟩
    · cases h1
    · simp only [Value.slice.injEq] at h1; simpa using h1.2.1
  subst hn
  have hr : w.ownsRow B e 1 (.slice (some ⟨g, 0, none⟩) xs.length cap) xs.length (xs.map (Value.int .u8)) := by
    have := h
    unfold Own at this
    rw [cellsOf_ints, List.length_map] at this
    exact this
  refine run_convert_bytes_arg w src e hs he g 0 xs.length cap xs rfl (fun i hi => ?_) dst hd
  rw [Nat.zero_add, hr.cellAt i (by omega)]
  simp [List.getD, List.getElem?_eq_getElem hi]

/-- string([]byte{c}): the one cell. -/
theorem str_of_one {P : Program} {src e dst : TypeId} (hs : P.underlying src = some (.slice e)) (he : P.underlying e = some (.int .u8)) (hd : P.underlying dst = some .string)
    (c : Int) (b cap : Nat) (w : World) (h : w.cell? ⟨b, 0, none⟩ = some (.int .u8 c)) :
    (convert src dst (.slice (some ⟨b, 0, none⟩) 1 cap)).run P w = .ok (.string (strOfNums [c])) w := by
  refine run_convert_bytes_arg w src e hs he b 0 1 cap [c] rfl (fun i hi => ?_) dst hd
  obtain rfl : i = 0 := by omega
  exact h

theorem bcell {W w1 : World} (hb : Below W.heap.size W w1) : (∀ b o, b < W.heap.size → w1.cell? ⟨b, o, none⟩ = W.cell? ⟨b, o, none⟩) ∧ (∀ b o, b < W.heap.size → w1.frozen? ⟨b, o, none⟩ = W.frozen? ⟨b, o, none⟩) :=
  ⟨fun b o h => hb.cell (p := ⟨b, o, none⟩) h, fun b o h => hb.frozen (p := ⟨b, o, none⟩) h⟩
theorem bkeep {w w' : World} (hb : Below w.heap.size w w') {p : Addr} {c : Value} (h : w.cell? p = some c) : w'.cell? p = some c :=
  (hb.cell (World.block_lt_of_cell? w p h)).trans h

theorem cell_new_drew (w : World) (v : Value) (T : TypeId) : (w.alloc (.cells #[v] T)).drew.cell? ⟨w.heap.size, 0, none⟩ = some v := cell_new w v T
theorem strOfNums_cons (x : Int) (xs : List Int) : strOfNums (x :: xs) = strOfNums [x] ++ strOfNums xs := by
  apply ByteArray.ext
  simp [strOfNums, ByteArray.data_append]
theorem strOfNums_append (xs ys : List Int) : strOfNums (xs ++ ys) = ⟨(strOfNums xs).data ++ (strOfNums ys).data⟩ := by simp [strOfNums]

/-- The bytes of a text as numbers. -/
def strI (s : ByteArray) : List Int := s.data.toList.map fun b => (b.toNat : Int)
theorem strI_length (s : ByteArray) : (strI s).length = s.size := by simp [strI]
theorem strOfNums_strI (s : ByteArray) : strOfNums (strI s) = s := by
  apply ByteArray.ext
  simp [strOfNums, strI, Function.comp_def]
theorem strOfNums_app (xs ys : List Int) : strOfNums (xs ++ ys) = strOfNums xs ++ strOfNums ys := by
  apply ByteArray.ext
  simp [strOfNums, ByteArray.data_append]

/-- A slice that is written out. -/
theorem own_lit {w : World} {B n : Nat} {e : TypeId} {k : IntKind} (cs : Array Value) (xs : List Int) (hcs : cs.toList = xs.map (Value.int k)) (hn : n = xs.length) (hB : B ≤ w.heap.size) (hm : n ≤ maxLen) :
    Own (w.alloc (.cells cs e)) B e 1 (.slice (some ⟨w.heap.size, 0, none⟩) n n) (xs.map (Value.int k)) := by
  have hsz : cs.size = xs.length := by rw [← Array.length_toList, hcs, List.length_map]
  refine ⟨by rw [cellsOf_ints]; simp, .inr ⟨w.heap.size, n, cs, by rw [hn, List.length_map], hB, heap_alloc_new w _, by rw [hn, List.length_map]; exact Nat.le_refl _, hm, by omega, ?_⟩⟩
  rw [hcs, cellsOf_ints]
  exact List.take_of_length_le (by simp)

theorem cells_lit {w : World} (cs : Array Value) (T : TypeId) (j : Nat) (q : Value) (h : cs.toList[j]? = some q) : (w.alloc (.cells cs T)).cell? ⟨w.heap.size, j, none⟩ = some q := by
  rw [World.cell?_alloc_new]; simpa using h

/-- append(s, a, b, ..): some numbers more. -/
theorem appNi {P : Program} {w : World} {t e : TypeId} {bytes : Nat} (E : ET P t e 1 bytes) {ops : Array Oper} {rest : List Oper} {o : Oper} {a : Act} {Q : Exit → Act → World → Prop}
    (hgd : o.guard = none) (s x : Operand)
    (ho : o.op = .call { callee := .builtin .append, args := #[s, x], argTypes := #[t, t] }) (B : Nat) {v : Value} {k : IntKind} (xs news : List Int)
    (hs : a.eval s = v) (hown : Own w B e 1 v (xs.map (Value.int k))) (g m c : Nat) (hx : a.eval x = .slice (some ⟨g, 0, none⟩) m c) (hm : m = news.length)
    (hu : ∀ j q, (news.map (Value.int k))[j]? = some q → w.cell? ⟨g, j, none⟩ = some q) (hne : 0 < news.length) (hroom : (xs.length + news.length) * bytes ≤ 140737488355328) (hlen : xs.length + news.length ≤ maxLen) (hB : B ≤ w.heap.size)
    (h : ∀ g' n' cap w', Own w' B e 1 (.slice (some ⟨g', 0, none⟩) n' cap) ((xs ++ news).map (Value.int k)) → w.grownBy w' v.ownBlock → B ≤ g' → g' < w'.heap.size →
      wpList P ops Q rest (a.put o.dst (.slice (some ⟨g', 0, none⟩) n' cap)) w') : wpList P ops Q (o :: rest) a w := by
  obtain ⟨ht, ⟨i, z, hi, hz, hsize, hby, hzs⟩, hp⟩ := E
  subst hm
  refine wpList_append_own w hgd s x t ho B e i z 1 bytes ht hi hz hsize hby hzs hp v xs.length (xs.map (Value.int k)) hs (by have := hown; unfold Own at this; rw [cellsOf_ints, List.length_map] at this; exact this) ⟨g, 0, none⟩ news.length c (news.map (Value.int k)) hx (by simp) ?_ ?_ hlen hroom hB ?_
  · intro j q hq
    have hadd : (⟨g, 0, none⟩ : Addr).add j = ⟨g, j, none⟩ := by unfold Addr.add; split <;> simp_all
    rw [hadd]
    exact hu j q hq
  · intro q hq; simp only [List.mem_map] at hq; obtain ⟨n, _, rfl⟩ := hq; rfl
  · intro v' w' hown' hgrow hnil
    have hown2 : Own w' B e 1 v' ((xs ++ news).map (Value.int k)) := by
      unfold Own
      rw [cellsOf_ints, List.length_map, List.length_append, List.map_append]
      exact hown'
    rcases hown2.shape with ⟨h1, h2⟩ | ⟨g', cap, h1, h2, h3⟩
    · simp at h2; rw [h2.2] at hne; simp at hne
    · subst h1
      exact h g' _ cap w' hown2 hgrow h2 h3

/-- append(s, l...): whatever the list, also an empty one. -/
theorem appNg {P : Program} {w : World} {t e : TypeId} {bytes : Nat} (E : ET P t e 1 bytes) {ops : Array Oper} {rest : List Oper} {o : Oper} {a : Act} {Q : Exit → Act → World → Prop}
    (hgd : o.guard = none) (s x : Operand)
    (ho : o.op = .call { callee := .builtin .append, args := #[s, x], argTypes := #[t, t] }) (B : Nat) {v : Value} {k : IntKind} (xs news : List Int)
    (hs : a.eval s = v) (hown : Own w B e 1 v (xs.map (Value.int k))) (ad : Addr) (m c : Nat) (hx : a.eval x = .slice (some ad) m c) (hm : m = news.length)
    (hu : ∀ j q, (news.map (Value.int k))[j]? = some q → w.cell? (ad.add j) = some q) (hroom : (xs.length + news.length) * bytes ≤ 140737488355328) (hlen : xs.length + news.length ≤ maxLen) (hB : B ≤ w.heap.size)
    (h : ∀ v' w', Own w' B e 1 v' ((xs ++ news).map (Value.int k)) → w.grownBy w' v.ownBlock → wpList P ops Q rest (a.put o.dst v') w') : wpList P ops Q (o :: rest) a w := by
  obtain ⟨ht, ⟨i, z, hi, hz, hsize, hby, hzs⟩, hp⟩ := E
  subst hm
  refine wpList_append_own w hgd s x t ho B e i z 1 bytes ht hi hz hsize hby hzs hp v xs.length (xs.map (Value.int k)) hs (by have := hown; unfold Own at this; rw [cellsOf_ints, List.length_map] at this; exact this) ad news.length c (news.map (Value.int k)) hx (by simp) hu ?_ hlen hroom hB ?_
  · intro q hq; simp only [List.mem_map] at hq; obtain ⟨n, _, rfl⟩ := hq; rfl
  · intro v' w' hown' hgrow hnil
    refine h v' w' ?_ hgrow
    unfold Own
    rw [cellsOf_ints, List.length_map, List.length_append, List.map_append]
    exact hown'

/-- append(b, s...) of a text; b is not nil. -/
theorem appStr {P : Program} {w : World} {t u e : TypeId} {bytes : Nat} (E : ET P t e 1 bytes) (hby1 : bytes = 1) (hz0 : (P.info? e).map (fun i => i.zero) = some (some (.int .u8 0))) (htu : P.underlying u = some .string) {ops : Array Oper} {rest : List Oper} {o : Oper} {a : Act} {Q : Exit → Act → World → Prop}
    (hgd : o.guard = none) (sl x : Operand)
    (ho : o.op = .call { callee := .builtin .append, args := #[sl, x], argTypes := #[t, u] }) (B : Nat) {g0 n0 cap0 : Nat} (xs : List Int)
    (hs : a.eval sl = .slice (some ⟨g0, 0, none⟩) n0 cap0) (hown : Own w B e 1 (.slice (some ⟨g0, 0, none⟩) n0 cap0) (xs.map (Value.int .u8))) (s : ByteArray) (hx : a.eval x = .string s)
    (hroom : xs.length + s.size ≤ 140737488355328) (hB : B ≤ w.heap.size)
    (h : ∀ g' n' cap w', Own w' B e 1 (.slice (some ⟨g', 0, none⟩) n' cap) ((xs ++ strI s).map (Value.int .u8)) → w.grownBy w' (some g0) → B ≤ g' → g' < w'.heap.size →
      wpList P ops Q rest (a.put o.dst (.slice (some ⟨g', 0, none⟩) n' cap)) w') : wpList P ops Q (o :: rest) a w := by
  obtain ⟨ht, ⟨i, z, hi, hz, hsize, hby, hzs⟩, hp⟩ := E
  subst hby1
  rw [hi] at hz0
  have hz1 : i.zero = some (.int .u8 0) := by simpa using hz0
  refine Lib.wpList_append_own_string w hgd sl x t u ho B e i ht htu hi hz1 hsize hby _ xs.length (xs.map (Value.int .u8)) hs (by have := hown; unfold Own at this; rw [cellsOf_ints, List.length_map] at this; exact this) s hx (by unfold maxLen; omega) hroom hB ?_
  intro v' w' hown' hgrow hnil
  have hown2 : Own w' B e 1 v' ((xs ++ strI s).map (Value.int .u8)) := by
    unfold Own
    rw [cellsOf_ints, List.length_map, List.length_append, strI_length, List.map_append]
    have e2 : (strI s).map (Value.int .u8) = Lib.strCells s := by simp [strI, Lib.strCells, Function.comp_def]
    rw [e2]
    exact hown'
  rcases hown2.shape with ⟨h1, h2⟩ | ⟨g', cap, h1, h2, h3⟩
  · exact absurd (hnil.1 h1).1 (by simp)
  · subst h1
    exact h g' _ cap w' hown2 hgrow h2 h3

theorem intE : ET Try.prog 25 3 1 8 := ET.mk' Try.underlying25 (z := .int .i64 0) (by kernel_rfl) rfl (by decide)
theorem u8E : ET Try.prog 196 5 1 1 := ET.mk' Try.underlying196 (z := .int .u8 0) (by kernel_rfl) rfl (by decide)
end Go.Proofs.Ytkhjncbjdldpbaa

/-
  A slice that the call made: one of its elements is stored anew.
-/
namespace Go.Proofs.Ytkhjncbjdldpbaa
set_option linter.unusedVariables false
open Go.ChangeShapes Go.WideShapes Go.ChangeAt Go.RowKit

theorem cellsOf_one {α : Type} (f : α → Value) (hf : ∀ a, (f a).cells = #[f a]) (l : List α) : cellsOf (l.map f) = l.map f := by
  induction l with
  | nil => rfl
  | cons a l ih => simpa [cellsOf, hf] using ih

theorem Own.set {α : Type} {f : α → Value} (hf : ∀ a, (f a).cells = #[f a]) {w : World} {B : Nat} {e : TypeId} {g n cap : Nat} {l : List α} (h : Own w B e 1 (.slice (some ⟨g, 0, none⟩) n cap) (l.map f)) (q : Nat) (a : α) :
    Own (w.setCell ⟨g, q, none⟩ (f a)) B e 1 (.slice (some ⟨g, 0, none⟩) n cap) ((l.set q a).map f) := by
  unfold Own at h ⊢
  rw [cellsOf_one f hf, List.length_map] at h ⊢
  rw [List.length_set]
  obtain ⟨h1, h2⟩ := h
  refine ⟨by simp, ?_⟩
  rcases h2 with ⟨h2, _⟩ | ⟨g', cap', cur, hv, hB, hg, hn, hc, hcs, htk⟩
  · cases h2
  · simp only [Value.slice.injEq, Option.some.injEq, Addr.mk.injEq] at hv
    obtain ⟨⟨rfl, _⟩, rfl, rfl⟩ := hv
    refine .inr ⟨g, cap, cur.setIfInBounds q (f a), rfl, hB, heap_setCell_same _ _ _ _ _ _ hg, hn, hc, by simpa using hcs, ?_⟩
    rw [Array.toList_setIfInBounds, List.take_set, htk, List.map_set]

theorem Own.cellAt {α : Type} {f : α → Value} (hf : ∀ a, (f a).cells = #[f a]) {w : World} {B : Nat} {e : TypeId} {g n cap : Nat} {l : List α} (h : Own w B e 1 (.slice (some ⟨g, 0, none⟩) n cap) (l.map f)) (i : Nat) (hi : i < l.length) (d : α) :
    w.cell? ⟨g, i, none⟩ = some (f (l.getD i d)) ∧ w.frozen? ⟨g, i, none⟩ = false ∧ B ≤ g ∧ g < w.heap.size := by
  have hr := h
  unfold Own at hr
  rw [cellsOf_one f hf, List.length_map] at hr
  have h1 := World.ownsRow.cellAt (g := g) (cap := cap) (n := l.length) (by
    rcases hr.2 with ⟨h2, _⟩ | ⟨g', cap', cur, hv, r⟩
    · cases h2
    · simp only [Value.slice.injEq, Option.some.injEq, Addr.mk.injEq] at hv
      obtain ⟨⟨rfl, _⟩, rfl, rfl⟩ := hv
      exact hr) i (by omega)
  refine ⟨by rw [h1]; simp [List.getD, List.getElem?_eq_getElem hi], ?_, ?_⟩
  · rcases hr.2 with ⟨h2, _⟩ | ⟨g', cap', cur, hv, hB, hg, _⟩
    · cases h2
    · simp only [Value.slice.injEq, Option.some.injEq, Addr.mk.injEq] at hv
      obtain ⟨⟨rfl, _⟩, rfl, rfl⟩ := hv
      exact frozen_of_row _ _ _ _ _ hg
  · exact h.lt g rfl
end Go.Proofs.Ytkhjncbjdldpbaa

/-
  Arguments that come in, read as plain data: slices as lists, structs field by field. (A helper text; it claims nothing of the program.)
-/
namespace Go.Proofs.Ytkhjncbjdldpbaa
set_option linter.unusedVariables false
open Go.ChangeShapes Go.WideShapes Go.ChangeAt Go.RowKit

section
variable {H : Type} {enc : TypeId × Value → H} {P : Program} {w : World} {base : Nat} {spare : Nat → Bool} {held : Bool}

/-- The slice value v reads as the list l: its elements are 'size' cells each, and R tells what such cells read as. -/
def Sl {α : Type} (w : World) (size : Nat) (R : List Value → α → Prop) (v : Value) (l : List α) : Prop :=
  ∃ (ao : Option Addr) (b off cap : Nat), v = .slice ao l.length cap ∧ l.length ≤ cap ∧ cap ≤ maxLen ∧ (0 < l.length → ao = some ⟨b, off, none⟩ ∧ b < w.heap.size) ∧
    ∀ i (h : i < l.length), ∃ cs, cs.length = size ∧ (∀ j, j < size → w.cell? ⟨b, off + i * size + j, none⟩ = cs[j]?) ∧ R cs l[i]

theorem Sl.call {α : Type} {size : Nat} {R R' : List Value → α → Prop} {v : Value} {l : List α} {w' : World} (h : Sl w size R v l) (hb : Below w.heap.size w w') (hR : ∀ cs a, R cs a → R' cs a) : Sl w' size R' v l := by
  obtain ⟨ao, b, off, cap, hv, h1, h2, h3, h4⟩ := h
  refine ⟨ao, b, off, cap, hv, h1, h2, fun hl => ⟨(h3 hl).1, Nat.lt_of_lt_of_le (h3 hl).2 hb.size⟩, fun i hi => ?_⟩
  obtain ⟨cs, h5, h6, h7⟩ := h4 i hi
  exact ⟨cs, h5, fun j hj => by rw [hb.cell (h3 (by omega)).2]; exact h6 j hj, hR _ _ h7⟩

theorem list_of_each {α : Type} {n : Nat} {p : Nat → α → Prop} (h : ∀ i, i < n → ∃ a, p i a) : ∃ l : List α, l.length = n ∧ ∀ i (hi : i < l.length), p i l[i] := by
  induction n with
  | zero => exact ⟨[], rfl, fun i hi => by simp at hi⟩
  | succ n ih =>
    obtain ⟨l, hl, hp⟩ := ih fun i hi => h i (by omega)
    obtain ⟨a, ha⟩ := h n (by omega)
    refine ⟨l ++ [a], by simp [hl], fun i hi => ?_⟩
    by_cases e : i < l.length
    · rw [List.getElem_append_left e]; exact hp i e
    · have e2 : i = l.length := by simp at hi; omega
      subst e2
      rw [List.getElem_append_right (Nat.le_refl _)]
      simpa [hl] using ha

/-- A slice that came in, opened. -/
theorem open_sl {α : Type} {t e : TypeId} {size fuel : Nat} {cs : List Value} {x : DataW H × List MemPlace} {R : List Value → α → Prop} (ht : P.underlying t = some (.slice e)) (hs : P.cellsOf e = size) (hp : 0 < size)
    (h : DataW.trod enc P w base spare held fuel t cs = some x)
    (hR : ∀ n cs y, cs.length = size → DataW.trod enc P w base spare held n e cs = some y → ∃ a, R cs a) : ∃ v l, cs = [v] ∧ Sl w size R v l := by
  rcases DataW.trod_slice ht h with ⟨h0, _⟩ | ⟨a, len, cap, elems, rest, n, _, rfl, _, hb, hl, hm, hlen, hel, _⟩
  · exact ⟨_, [], h0, none, 0, 0, 0, rfl, Nat.le_refl _, by decide, fun h => by simp at h, fun i hi => by simp at hi⟩
  · subst hs
    obtain ⟨b, off, spot⟩ := a
    have each : ∀ i, i < len → ∃ q : α × List Value, (∃ cs', w.cells? base ((⟨b, off, spot⟩ : Addr).add (i * P.cellsOf e)) (P.cellsOf e) = some cs' ∧ q.2 = cs' ∧ R cs' q.1) := by
      intro i hi
      have h1 := hel i hi
      rw [List.getElem?_eq_getElem (by omega)] at h1
      obtain ⟨cs', h2, h3⟩ := Option.bind_eq_some_iff.1 h1
      obtain ⟨hbb, hl2, _⟩ := World.cells?_some h2
      obtain ⟨a, ha⟩ := hR n cs' _ hl2 h3
      exact ⟨(a, cs'), cs', h2, rfl, ha⟩
    obtain ⟨l, hl1, hl2⟩ := list_of_each each
    refine ⟨_, l.map (·.1), rfl, some ⟨b, off, spot⟩, b, off, cap, by simp [hl1], by simp [hl1]; omega, hm, fun hpos => ?_, fun i hi => ?_⟩
    · have hi0 : 0 < l.length := by simpa using hpos
      obtain ⟨cs', h2, _, _⟩ := hl2 0 hi0
      obtain ⟨_, hl3, hc⟩ := World.cells?_some h2
      have h0 := hc 0 hp
      have e : ∃ q, cs'[0]? = some q := ⟨cs'[0]'(by omega), List.getElem?_eq_getElem (by omega)⟩
      obtain ⟨q, hq⟩ := e
      rw [hq] at h0
      have hz : ((⟨b, off, spot⟩ : Addr).add (0 * P.cellsOf e)).add 0 = ⟨b, off, spot⟩ := by simp [Addr.add]
      rw [hz] at h0
      have hspot := World.cell?_spot h0
      have hblk := World.block_lt_of_cell? w _ h0
      simp only at hspot
      subst hspot
      exact ⟨rfl, hblk⟩
    · have hi0 : i < l.length := by simpa using hi
      obtain ⟨cs', h2, h5, h6⟩ := hl2 i hi0
      obtain ⟨_, hl3, hc⟩ := World.cells?_some h2
      have spot0 : spot = none := by
        obtain ⟨cs0, g2, _, _⟩ := hl2 0 (by omega)
        obtain ⟨_, g3, gc⟩ := World.cells?_some g2
        have h0 := gc 0 hp
        rw [List.getElem?_eq_getElem (by omega)] at h0
        have hz : ((⟨b, off, spot⟩ : Addr).add (0 * P.cellsOf e)).add 0 = ⟨b, off, spot⟩ := by simp [Addr.add]
        rw [hz] at h0
        exact World.cell?_spot h0
      subst spot0
      refine ⟨cs', hl3, fun j hj => ?_, by simpa [h5] using h6⟩
      rw [← hc j hj]
      congr 1
      unfold Addr.add
      by_cases e1 : i * P.cellsOf e = 0 <;> by_cases e2 : j = 0 <;> simp [e1, e2]
end

/-! What cells read as. -/
def RInt (k : IntKind) (cs : List Value) (n : Int) : Prop := cs = [.int k n] ∧ (Lit.int k n).wf = true
def RBool (cs : List Value) (b : Bool) : Prop := cs = [.bool b]
def RStr (cs : List Value) (s : ByteArray) : Prop := cs = [.string s] ∧ s.size ≤ maxLen
def RSl {α : Type} (w : World) (size : Nat) (R : List Value → α → Prop) (cs : List Value) (l : List α) : Prop := ∃ v, cs = [v] ∧ Sl w size R v l

section
variable {H : Type} {enc : TypeId × Value → H} {P : Program} {w : World} {base : Nat} {spare : Nat → Bool} {held : Bool} {t e : TypeId} {n : Nat} {cs : List Value} {y : DataW H × List MemPlace}
theorem rInt {k : IntKind} (ht : P.underlying t = some (.int k)) (h : DataW.trod enc P w base spare held n t cs = some y) : ∃ a, RInt k cs a := by
  obtain ⟨m, h1, _, h2⟩ := DataW.trod_int ht h
  exact ⟨m, h1, h2⟩
theorem rBool (ht : P.underlying t = some .bool) (h : DataW.trod enc P w base spare held n t cs = some y) : ∃ a, RBool cs a := by
  obtain ⟨m, h1, _⟩ := DataW.trod_bool ht h
  exact ⟨m, h1⟩
theorem rStr (ht : P.underlying t = some .string) (h : DataW.trod enc P w base spare held n t cs = some y) : ∃ a, RStr cs a := by
  obtain ⟨m, h1, _, h2⟩ := DataW.trod_string ht h
  exact ⟨m, h1, h2⟩
theorem rSl {α : Type} {size : Nat} {R : List Value → α → Prop} (ht : P.underlying t = some (.slice e)) (hs : P.cellsOf e = size) (hp : 0 < size)
    (hR : ∀ n cs y, cs.length = size → DataW.trod enc P w base spare held n e cs = some y → ∃ a, R cs a) (h : DataW.trod enc P w base spare held n t cs = some y) : ∃ l, RSl w size R cs l := by
  obtain ⟨v, l, h1, h2⟩ := open_sl ht hs hp h hR
  exact ⟨l, v, h1, h2⟩
/-- A struct's field. -/
theorem rField {fs : Array Field} (ht : P.underlying t = some (.struct fs)) (h : DataW.trod enc P w base spare held n t cs = some y) (i : Nat) (f : Field) (hf : fs[i]? = some f) :
    ∃ m z, DataW.trod enc P w base spare held m f.type ((cs.drop f.offset).take (P.cellsOf f.type)) = some z := by
  obtain ⟨xs, m, _, _, _, hlen, hel⟩ := DataW.trod_struct ht h
  have h1 := hel i f hf
  have hi : i < fs.size := (Array.getElem?_eq_some_iff.1 hf).1
  rw [List.getElem?_eq_getElem (by omega)] at h1
  exact ⟨m, _, h1⟩
end

/-- Element i of a slice that came in. -/
theorem Sl.range {α : Type} {size : Nat} {R : List Value → α → Prop} {b off : Nat} {l : List α} {w : World}
    (h : ∀ i (h : i < l.length), ∃ cs, cs.length = size ∧ (∀ j, j < size → w.cell? ⟨b, off + i * size + j, none⟩ = cs[j]?) ∧ R cs l[i]) (i : Nat) (hi : i < l.length) :
    ∃ cs, R cs l[i] ∧ w.rangeAt b (off + i * size) cs := by
  obtain ⟨cs, h1, h2, h3⟩ := h i hi
  refine ⟨cs, h3, fun j v hv => ?_⟩
  have hj : j < cs.length := (List.getElem?_eq_some_iff.1 hv).1
  rw [h2 j (by omega), hv]

theorem rangeAt_below {w w' : World} (hb : Below w.heap.size w w') {b off : Nat} {cs : List Value} (h : w.rangeAt b off cs) : w'.rangeAt b off cs :=
  fun j v hv => bkeep hb (h j v hv)

def RRow (k : IntKind) (n : Nat) (cs : List Value) (row : List Int) : Prop := cs = row.map (Value.int k) ∧ row.length = n ∧ ∀ x ∈ row, (Lit.int k x).wf = true

/-- An array of numbers, by value. -/
theorem rRow {H : Type} {enc : TypeId × Value → H} {P : Program} {w : World} {base : Nat} {spare : Nat → Bool} {held : Bool} {t e : TypeId} {m n : Nat} {cs : List Value} {y : DataW H × List MemPlace} {k : IntKind}
    (ht : P.underlying t = some (.array n e)) (he : P.underlying e = some (.int k)) (hc : P.cellsOf e = 1) (hct : P.cellsOf t = n) (h : DataW.trod enc P w base spare held m t cs = some y) : ∃ row, RRow k n cs row := by
  obtain ⟨xs, q, _, _, hl, hx, hel⟩ := DataW.trod_array ht h
  have each : ∀ i, i < n → ∃ a : Int, cs[i]? = some (.int k a) ∧ (Lit.int k a).wf = true := by
    intro i hi
    have h1 := hel i hi
    rw [List.getElem?_eq_getElem (by omega), hc, Nat.mul_one] at h1
    obtain ⟨a, ha, _, hw⟩ := DataW.trod_int he h1
    refine ⟨a, ?_, hw⟩
    have h2 : ((cs.drop i).take 1)[0]? = some (.int k a) := by rw [ha]; rfl
    simpa using h2
  obtain ⟨row, hr1, hr2⟩ := list_of_each each
  refine ⟨row, List.ext_getElem? fun i => ?_, hr1, fun x hx => ?_⟩
  · by_cases hi : i < row.length
    · rw [(hr2 i hi).1, List.getElem?_map, List.getElem?_eq_getElem hi]; rfl
    · rw [List.getElem?_eq_none (by omega), List.getElem?_eq_none (by simp; omega)]
  · obtain ⟨i, hi, rfl⟩ := List.getElem_of_mem hx
    exact (hr2 i hi).2

/-- x[i] of an array of numbers by value. -/
theorem run_index_arr {P : Program} {t e : TypeId} {n : Nat} {k : IntKind} (ht : P.underlying t = some (.array n e)) (he : P.underlying e = some (.int k)) (hs : (P.info? e).map (·.size) = some 1)
    (xs : List Int) (hl : xs.length = n) (i : Nat) (hi : i < n) (w : World) : (Instr.index t (.agg (xs.map (Value.int k)).toArray) (.int .i64 i)).run P w = .ok (.int k (xs.getD i 0)) w := by
  cases hq : P.info? e with
  | none => simp [hq] at hs
  | some inf =>
    have hs1 : inf.size = 1 := by simpa [hq] using hs
    have hil : i < xs.length := by omega
    simp [Instr.index, asIntOf, run_underlying ht, run_underlying he, sizeOf, typeInfo, hq, hs1, part, isAgg, hi, hil]
end Go.Proofs.Ytkhjncbjdldpbaa

/-
  What a call owns, as a list of assertions apart from each other. (A helper text; it claims nothing of the program.)
-/
namespace Go.Proofs.Ytkhjncbjdldpbaa
set_option linter.unusedVariables false
open Go.ChangeShapes Go.WideShapes Go.ChangeAt Go.RowKit

/-- An assertion on some blocks of memory. -/
structure Asrt where
  fp : List Nat
  ok : World → Prop
  loc : ∀ w w' : World, (∀ b ∈ fp, w'.heap[b]? = w.heap[b]?) → ok w → ok w'

/-- Since w0 the call has made what μ says; all else is as it was. -/
structure St (w0 w : World) (μ : List Asrt) : Prop where
  bel : Below w0.heap.size w0 w
  ok : ∀ A ∈ μ, A.ok w
  lo : ∀ A ∈ μ, ∀ b ∈ A.fp, w0.heap.size ≤ b ∧ b < w.heap.size
  sep : (μ.flatMap (·.fp)).Nodup

theorem Own.loc {w w' : World} {B : Nat} {e : TypeId} {size : Nat} {v : Value} {xs : List Value} (h : Own w B e size v xs) (hb : ∀ b ∈ v.ownBlock.toList, w'.heap[b]? = w.heap[b]?) : Own w' B e size v xs := by
  refine ⟨h.1, ?_⟩
  rcases h.2 with h2 | ⟨g, cap, cur, rfl, hB, hg, hn, hc, hcs, htk⟩
  · exact .inl h2
  · exact .inr ⟨g, cap, cur, rfl, hB, by rw [hb g (by simp [Value.ownBlock])]; exact hg, hn, hc, hcs, htk⟩

/-- A slice of its own. -/
def aOwn (e : TypeId) (size : Nat) (v : Value) (xs : List Value) : Asrt := ⟨v.ownBlock.toList, fun w => Own w 0 e size v xs, fun _ _ hb h => h.loc hb⟩
/-- A block of its own. -/
def aCel (g : Nat) (T : TypeId) (cs : Array Value) : Asrt := ⟨[g], fun w => w.heap[g]? = some (.cells cs T (0, 0)), fun _ _ hb h => by rw [hb g (by simp)]; exact h⟩

theorem Own.base {w : World} {B B' : Nat} {e : TypeId} {size : Nat} {v : Value} {xs : List Value} (h : Own w B e size v xs) (hb : ∀ b ∈ v.ownBlock.toList, B' ≤ b) : Own w B' e size v xs := by
  refine ⟨h.1, ?_⟩
  rcases h.2 with h2 | ⟨g, cap, cur, rfl, hB, hg, hn, hc, hcs, htk⟩
  · exact .inl h2
  · exact .inr ⟨g, cap, cur, rfl, hb g (by simp [Value.ownBlock]), hg, hn, hc, hcs, htk⟩

section
variable {w0 w w' : World} {μ ν : List Asrt} {A A' B C D : Asrt}
theorem St.init (w : World) : St w w [] := ⟨Below.refl _ _, fun _ h => (by cases h), fun _ h => (by cases h), (by simp)⟩
theorem St.call (h : St w0 w μ) (hb : Below w.heap.size w w') : St w0 w' μ := by
  refine ⟨h.bel.trans (hb.mono h.bel.size), fun A hA => A.loc w w' (fun b hb1 => hb.block b (h.lo A hA b hb1).2) (h.ok A hA), fun A hA b hb1 => ⟨(h.lo A hA b hb1).1, Nat.lt_of_lt_of_le (h.lo A hA b hb1).2 hb.size⟩, h.sep⟩
theorem St.drew (h : St w0 w μ) : St w0 w.drew μ := ⟨h.bel.drew, fun A hA => A.loc w _ (fun _ _ => rfl) (h.ok A hA), h.lo, h.sep⟩
theorem St.drewN (h : St w0 w μ) (n : Nat) : St w0 (w.drewN n) μ := ⟨below_drewN h.bel n, fun A hA => A.loc w _ (fun _ _ => rfl) (h.ok A hA), h.lo, h.sep⟩
theorem St.skip (h : St w0 w μ) (o : Obj) : St w0 (w.alloc o) μ := h.call ((Below.refl _ _).alloc (Nat.le_refl _) _)
theorem St.perm (h : St w0 w μ) (hp : μ.Perm ν) : St w0 w ν :=
  ⟨h.bel, fun A hA => h.ok A (hp.mem_iff.2 hA), fun A hA => h.lo A (hp.mem_iff.2 hA), ((hp.flatMap_right _).nodup_iff).1 h.sep⟩
theorem St.get2 (h : St w0 w (A :: B :: μ)) : St w0 w (B :: A :: μ) := h.perm (List.Perm.swap _ _ _)
theorem St.get3 (h : St w0 w (A :: B :: C :: μ)) : St w0 w (C :: A :: B :: μ) := h.perm (((List.Perm.swap _ _ _).cons _).trans (List.Perm.swap _ _ _))
theorem St.get4 (h : St w0 w (A :: B :: C :: D :: μ)) : St w0 w (D :: A :: B :: C :: μ) := h.perm (((((List.Perm.swap _ _ _).cons _).cons _).trans ((List.Perm.swap _ _ _).cons _)).trans (List.Perm.swap _ _ _))
theorem St.drop (h : St w0 w (A :: μ)) : St w0 w μ :=
  ⟨h.bel, fun B hB => h.ok B (.tail _ hB), fun B hB => h.lo B (.tail _ hB), by have := h.sep; simp only [List.flatMap_cons] at this; exact (List.nodup_append.1 this).2.1⟩
/-- One assertion gives way to another one: the world turns only where the first one looks, and behind the end. -/
theorem St.upd (h : St w0 w (A :: μ)) (hos : w'.os = w.os) (htape : w'.tape = w.tape) (hout : w'.output = w.output) (hsz : w.heap.size ≤ w'.heap.size)
    (hblk : ∀ b, b < w.heap.size → b ∉ A.fp → w'.heap[b]? = w.heap[b]?) (hok : A'.ok w') (hfp : ∀ b ∈ A'.fp, b ∈ A.fp ∨ (w.heap.size ≤ b ∧ b < w'.heap.size)) (hnd : A'.fp.Nodup) : St w0 w' (A' :: μ) := by
  have hsep := h.sep
  simp only [List.flatMap_cons, List.nodup_append] at hsep
  obtain ⟨hs1, hs2, hs3⟩ := hsep
  have hlo := h.lo A (.head _)
  refine ⟨⟨hos.trans h.bel.os, htape.trans h.bel.tape, hout.trans h.bel.output, Nat.le_trans h.bel.size hsz, fun k hk => ?_⟩, fun B hB => ?_, fun B hB b hb => ?_, ?_⟩
  · rw [hblk k (Nat.lt_of_lt_of_le hk h.bel.size) (fun hm => by have := (hlo k hm).1; omega), h.bel.block k hk]
  · rcases List.mem_cons.1 hB with rfl | hB
    · exact hok
    · refine B.loc w w' (fun b hb => ?_) (h.ok B (.tail _ hB))
      refine hblk b (h.lo B (.tail _ hB) b hb).2 (fun hm => ?_)
      exact hs3 b hm b (List.mem_flatMap.2 ⟨B, hB, hb⟩) rfl
  · rcases List.mem_cons.1 hB with rfl | hB
    · rcases hfp b hb with h1 | h1
      · exact ⟨(hlo b h1).1, Nat.lt_of_lt_of_le (hlo b h1).2 hsz⟩
      · exact ⟨Nat.le_trans h.bel.size h1.1, h1.2⟩
    · exact ⟨(h.lo B (.tail _ hB) b hb).1, Nat.lt_of_lt_of_le (h.lo B (.tail _ hB) b hb).2 hsz⟩
  · simp only [List.flatMap_cons, List.nodup_append]
    refine ⟨hnd, hs2, fun b hb c hc e => ?_⟩
    subst e
    rcases hfp b hb with h1 | h1
    · exact hs3 b h1 b hc rfl
    · obtain ⟨B, hB, hb2⟩ := List.mem_flatMap.1 hc
      have := (h.lo B (.tail _ hB) b hb2).2
      omega
/-- A call's own result is the caller's now. -/
theorem St.push (h : St w0 w μ) (hb : Below w.heap.size w w') (hok : A.ok w') (hfp : ∀ b ∈ A.fp, w.heap.size ≤ b ∧ b < w'.heap.size) (hnd : A.fp.Nodup) : St w0 w' (A :: μ) := by
  have h2 := h.call hb
  refine ⟨h2.bel, fun B hB => ?_, fun B hB b hb1 => ?_, ?_⟩
  · rcases List.mem_cons.1 hB with rfl | hB
    · exact hok
    · exact h2.ok B hB
  · rcases List.mem_cons.1 hB with rfl | hB
    · exact ⟨Nat.le_trans h.bel.size (hfp b hb1).1, (hfp b hb1).2⟩
    · exact h2.lo B hB b hb1
  · simp only [List.flatMap_cons, List.nodup_append]
    refine ⟨hnd, h.sep, fun b hb1 c hc e => ?_⟩
    subst e
    obtain ⟨B, hB, hb2⟩ := List.mem_flatMap.1 hc
    have := (h.lo B hB b hb2).2
    have := (hfp b hb1).1
    omega
theorem St.alloc (h : St w0 w μ) (cs : Array Value) (T : TypeId) : St w0 (w.alloc (.cells cs T)) (aCel w.heap.size T cs :: μ) :=
  h.push ((Below.refl _ _).alloc (Nat.le_refl _) _) (heap_alloc_new _ _) (fun b hb => by simp [aCel] at hb; subst hb; simp) (by simp [aCel])
end

section
variable {w0 w w' : World} {μ : List Asrt} {e : TypeId} {size : Nat} {v v' : Value} {xs ys : List Value}
theorem nodup_ob (v : Value) : v.ownBlock.toList.Nodup := by cases v.ownBlock <;> simp
theorem Own.fp {B : Nat} (h : Own w B e size v xs) : ∀ b ∈ v.ownBlock.toList, B ≤ b ∧ b < w.heap.size := fun b hb => h.lt b (by simpa using hb)
theorem Own.zero {B : Nat} (h : Own w B e size v xs) : Own w 0 e size v xs := h.base fun _ _ => Nat.zero_le _
theorem Own.addr {B : Nat} {ao : Option Addr} {n cap : Nat} (h : Own w B e size (.slice ao n cap) xs) (hp : 0 < xs.length) : ∃ g, ao = some ⟨g, 0, none⟩ := by
  rcases h.shape with ⟨_, h2⟩ | ⟨g, c, h1, _⟩
  · subst h2; simp at hp
  · simp only [Value.slice.injEq] at h1; exact ⟨g, h1.1⟩
/-- A call's own slice. -/
theorem St.pushOwn (h : St w0 w μ) (hb : Below w.heap.size w w') (ho : Own w' w.heap.size e size v xs) : St w0 w' (aOwn e size v xs :: μ) :=
  h.push hb ho.zero (fun b hb => ho.fp b hb) (nodup_ob v)
theorem St.nilOwn (h : St w0 w μ) (e : TypeId) (size : Nat) : St w0 w (aOwn e size (.slice none 0 0) [] :: μ) :=
  h.push (Below.refl _ _) (Own.nil _ _ _ _) (fun b hb => by simp [aOwn, Value.ownBlock] at hb) (by simp [aOwn, Value.ownBlock])
theorem St.own (h : St w0 w (aOwn e size v xs :: μ)) : Own w w0.heap.size e size v xs := (h.ok _ (.head _)).base fun b hb => (h.lo _ (.head _) b hb).1
/-- Behind an append. -/
theorem St.grown (h : St w0 w (aOwn e size v xs :: μ)) (hg : w.grownBy w' v.ownBlock) (ho : Own w' w0.heap.size e size v' ys) (hn : ∀ k, v'.ownBlock = some k → v.ownBlock = some k ∨ w.heap.size ≤ k) : St w0 w' (aOwn e size v' ys :: μ) := by
  refine h.upd hg.os hg.tape hg.output hg.size (fun b hb hm => ?_) ho.zero (fun b hb => ?_) (nodup_ob v')
  · exact hg.block b hb fun e => hm (by simp [aOwn, ← e])
  · have hb' : v'.ownBlock = some b := by simpa [aOwn] using hb
    rcases hn b hb' with h1 | h1
    · exact .inl (by simpa [aOwn] using h1)
    · exact .inr ⟨h1, (ho.lt b hb').2⟩
theorem St.setOwn {α : Type} {f : α → Value} (hf : ∀ a, (f a).cells = #[f a]) {g n cap : Nat} {l : List α} (h : St w0 w (aOwn e 1 (.slice (some ⟨g, 0, none⟩) n cap) (l.map f) :: μ)) (q : Nat) (a : α) :
    St w0 (w.setCell ⟨g, q, none⟩ (f a)) (aOwn e 1 (.slice (some ⟨g, 0, none⟩) n cap) ((l.set q a).map f) :: μ) := by
  refine h.upd rfl rfl rfl (by simp) (fun b hb hm => ?_) (Own.set hf (h.ok _ (.head _)) q a) (fun b hb => .inl hb) (by simp [aOwn, Value.ownBlock])
  exact heap_setCell_other _ _ _ _ (fun e => hm (by simp [aOwn, Value.ownBlock, e]))
theorem St.cellOwn {α : Type} {f : α → Value} (hf : ∀ a, (f a).cells = #[f a]) {g n cap : Nat} {l : List α} (h : St w0 w (aOwn e 1 (.slice (some ⟨g, 0, none⟩) n cap) (l.map f) :: μ)) (i : Nat) (hi : i < l.length) (d : α) :
    w.cell? ⟨g, i, none⟩ = some (f (l.getD i d)) ∧ w.frozen? ⟨g, i, none⟩ = false := by
  have := Own.cellAt hf (h.ok _ (.head _)) i hi d
  exact ⟨this.1, this.2.1⟩
end

/-- Where an append puts its row: where it was, or behind the end. -/
theorem run_append_where {P : Program} {w : World} {t ty e : TypeId} {size bytes : Nat} (E : ET P t e size bytes) {v : Value} {xs : List Value} (hown : Own w 0 e size v xs)
    (a : Addr) (m c : Nat) (news : List Value) (hl : news.length = m * size) (hnews : ∀ j u, news[j]? = some u → w.cell? (a.add j) = some u) (h1 : ∀ u ∈ news, u.oneCell' = true)
    (h63 : xs.length + m ≤ maxLen) (hbytes : (xs.length + m) * bytes ≤ 140737488355328) :
    ∃ v' w', (Builtin.append_ #[t, t] ty #[v, .slice (some a) m c]).run P w = .ok v' w' ∧ w'.ownsRow 0 e size v' (xs.length + m) (cellsOf xs ++ news) ∧ w.grownBy w' v.ownBlock ∧ (∀ k, v'.ownBlock = some k → v.ownBlock = some k ∨ w.heap.size ≤ k) ∧ (0 < m → ∃ g cap, v' = .slice (some ⟨g, 0, none⟩) (xs.length + m) cap) := by
  obtain ⟨ht, ⟨i, z, hi, hz, hsize, hby, hzs⟩, hp⟩ := E
  obtain ⟨v', w', hr, h2, h3, h4⟩ := run_append_own (P := P) w 0 t ty e i z size bytes ht hi hz hsize hby hzs hp v xs.length (cellsOf xs) hown a m c news hl hnews h1 h63 hbytes (Nat.zero_le _)
  refine ⟨v', w', hr, h2, h3, ?_, ?_⟩
  · unfold maxLen at h63
    subst hsize hby
    rcases hown.2 with ⟨rfl, hn⟩ | ⟨g, cap, cur, rfl, hbg, hg, hnc, hcm, hcs, htake⟩
    · by_cases hm : m = 0
      · subst hm
        have := h4.2 ⟨rfl, rfl⟩
        subst this
        intro k hk; cases hk
      · have hr2 := run_append_nil (P := P) w t ty e i z ht hi hz a m c news hl hnews (by omega) (by omega) (by rw [hn] at hbytes; simp only [Nat.zero_add] at hbytes; omega)
        rw [hr2] at hr
        cases hr
        intro k hk
        cases hk
        exact .inr (Nat.le_refl _)
    · by_cases hroom : xs.length + m ≤ cap
      · have hfit : xs.length * i.size + news.length ≤ cur.size := by rw [hl, hcs, ← Nat.add_mul]; exact Nat.mul_le_mul_right _ hroom
        have hr2 := run_append_room (P := P) w t ty e i ht hi g xs.length cap cur hg a m c news hl hnews h1 hroom hfit
        rw [hr2] at hr
        cases hr
        intro k hk
        exact .inl hk
      · have holds : ∀ j u, (cellsOf xs)[j]? = some u → w.cell? ((⟨g, 0, none⟩ : Addr).add j) = some u := World.ownsRow.cells (g := g) hown rfl
        have hr2 := run_append_grow (P := P) w t ty e i z ht hi hz ⟨g, 0, none⟩ xs.length cap (cellsOf xs) hown.1 holds a m c news hl hnews (by omega) (by omega) (growslice_fits (by omega) hbytes)
        rw [hr2] at hr
        cases hr
        intro k hk
        cases hk
        exact .inr (Nat.le_refl _)
  · intro hm
    rcases h2.2 with ⟨h5, h6⟩ | ⟨g, cap, cur, h5, _⟩
    · omega
    · exact ⟨g, cap, h5⟩

theorem cellsOf_len {size : Nat} {us : List Value} (h : ∀ u ∈ us, u.cells.size = size) : (cellsOf us).length = us.length * size := by
  induction us with
  | nil => simp [cellsOf]
  | cons u us ih =>
    have h1 := h u (.head _)
    have h2 := ih fun x hx => h x (.tail _ hx)
    simp only [cellsOf, List.flatMap_cons, List.length_append, Array.length_toList, List.length_cons] at h2 ⊢
    rw [h1, h2, Nat.add_mul]; omega

theorem cellsOf_get {size : Nat} {us : List Value} (h : ∀ u ∈ us, u.cells.size = size) (i : Nat) (hi : i < us.length) (j : Nat) (hj : j < size) : (cellsOf us)[i * size + j]? = (us[i].cells.toList)[j]? := by
  induction us generalizing i with
  | nil => simp at hi
  | cons u us ih =>
    have h1 := h u (.head _)
    simp only [cellsOf, List.flatMap_cons]
    cases i with
    | zero =>
      rw [Nat.zero_mul, Nat.zero_add, List.getElem?_append_left (by rw [Array.length_toList]; omega)]
      rfl
    | succ i =>
      rw [List.getElem?_append_right (by rw [Array.length_toList, h1, Nat.add_mul]; omega), Array.length_toList, h1, show (i + 1) * size + j - size = i * size + j by rw [Nat.add_mul]; omega]
      exact ih (fun x hx => h x (.tail _ hx)) i (by simpa using hi)

/-- append(s, us...): at least one element; at the operation. -/
theorem St.wpApp {P : Program} {w0 w : World} {μ : List Asrt} {t e : TypeId} {size bytes : Nat} (E : ET P t e size bytes) {o : Oper} {a : Act} {K : Act → World → Prop} {Q : Exit → Act → World → Prop}
    (s x : Operand) (ho : o.op = .call { callee := .builtin .append, args := #[s, x], argTypes := #[t, t] }) {v : Value} {xs : List Value} (hs : a.eval s = v)
    (h : St w0 w (aOwn e size v xs :: μ)) (us : List Value) (ad : Addr) (m c : Nat) (hx : a.eval x = .slice (some ad) m c) (hm : m = us.length)
    (hu : ∀ j q, (cellsOf us)[j]? = some q → w.cell? (ad.add j) = some q) (hsz : ∀ u ∈ us, u.cells.size = size) (h1 : ∀ q ∈ cellsOf us, q.oneCell' = true) (hpos : 0 < m)
    (hlen : xs.length + m ≤ maxLen) (hroom : (xs.length + m) * bytes ≤ 140737488355328)
    (hK : ∀ g' n' cap w', St w0 w' (aOwn e size (.slice (some ⟨g', 0, none⟩) n' cap) (xs ++ us) :: μ) → K (a.put o.dst (.slice (some ⟨g', 0, none⟩) n' cap)) w') : o.wp P a w K Q := by
  subst hm
  obtain ⟨v', w', hr, h2, h3, h4, h5⟩ := run_append_where (ty := o.type) E (v := v) (xs := xs) (h.ok _ (.head _)) ad us.length c (cellsOf us) (cellsOf_len hsz) hu h1 hlen hroom
  obtain ⟨g, cap, rfl⟩ := h5 hpos
  unfold Oper.wp execOp
  simp only [ho, resolve, invoke, builtin, Sem.run_bind, Sem.run_pure, Result.andThen_ok, List.map_toArray, List.map_cons, List.map_nil, hs, hx, hr]
  refine hK g _ cap w' ?_
  have ho2 : Own w' 0 e size (.slice (some ⟨g, 0, none⟩) (xs.length + us.length) cap) (xs ++ us) := by
    unfold Own
    rw [cellsOf_append, List.length_append]
    exact h2
  refine h.upd h3.os h3.tape h3.output h3.size (fun b hb hm => ?_) ho2 (fun b hb => ?_) (by simp [aOwn, Value.ownBlock])
  · exact h3.block b hb fun e => hm (by simp [aOwn, ← e])
  · have hb' : (Value.slice (some ⟨g, 0, none⟩) (xs.length + us.length) cap).ownBlock = some b := by simpa [aOwn] using hb
    rcases h4 b hb' with h6 | h6
    · exact .inl (by simpa [aOwn] using h6)
    · exact .inr ⟨h6, (ho2.lt b hb').2⟩

/-- append(s, us...): at least one element. -/
theorem St.app {P : Program} {w0 w : World} {μ : List Asrt} {t e : TypeId} {size bytes : Nat} (E : ET P t e size bytes) {ops : Array Oper} {rest : List Oper} {o : Oper} {a : Act} {Q : Exit → Act → World → Prop}
    (hgd : o.guard = none) (s x : Operand) (ho : o.op = .call { callee := .builtin .append, args := #[s, x], argTypes := #[t, t] }) {v : Value} {xs : List Value} (hs : a.eval s = v)
    (h : St w0 w (aOwn e size v xs :: μ)) (us : List Value) (ad : Addr) (m c : Nat) (hx : a.eval x = .slice (some ad) m c) (hm : m = us.length)
    (hu : ∀ j q, (cellsOf us)[j]? = some q → w.cell? (ad.add j) = some q) (hsz : ∀ u ∈ us, u.cells.size = size) (h1 : ∀ q ∈ cellsOf us, q.oneCell' = true) (hpos : 0 < m)
    (hlen : xs.length + m ≤ maxLen) (hroom : (xs.length + m) * bytes ≤ 140737488355328)
    (hK : ∀ g' n' cap w', St w0 w' (aOwn e size (.slice (some ⟨g', 0, none⟩) n' cap) (xs ++ us) :: μ) → wpList P ops Q rest (a.put o.dst (.slice (some ⟨g', 0, none⟩) n' cap)) w') : wpList P ops Q (o :: rest) a w :=
  wpList_plain hgd fun K hK' => St.wpApp E s x ho hs h us ad m c hx hm hu hsz h1 hpos hlen hroom fun g' n' cap w' h2 => hK' _ _ (hK g' n' cap w' h2)

/-- append(s, u). -/
theorem St.app1 {P : Program} {w0 w : World} {μ : List Asrt} {t e : TypeId} {size bytes : Nat} (E : ET P t e size bytes) {ops : Array Oper} {rest : List Oper} {o : Oper} {a : Act} {Q : Exit → Act → World → Prop}
    (hgd : o.guard = none) (s x : Operand) (ho : o.op = .call { callee := .builtin .append, args := #[s, x], argTypes := #[t, t] }) {v : Value} {xs : List Value} (hs : a.eval s = v)
    (h : St w0 w (aOwn e size v xs :: μ)) (u : Value) (g c : Nat) (hx : a.eval x = .slice (some ⟨g, 0, none⟩) 1 c)
    (hu : ∀ j q, u.cells.toList[j]? = some q → w.cell? ⟨g, j, none⟩ = some q) (hsz : u.cells.size = size) (h1 : ∀ q ∈ u.cells.toList, q.oneCell' = true)
    (hlen : xs.length + 1 ≤ maxLen) (hroom : (xs.length + 1) * bytes ≤ 140737488355328)
    (hK : ∀ g' n' cap w', St w0 w' (aOwn e size (.slice (some ⟨g', 0, none⟩) n' cap) (xs ++ [u]) :: μ) → wpList P ops Q rest (a.put o.dst (.slice (some ⟨g', 0, none⟩) n' cap)) w') : wpList P ops Q (o :: rest) a w := by
  refine St.app E hgd s x ho hs h [u] ⟨g, 0, none⟩ 1 c hx rfl ?_ (by simpa using hsz) (by rw [oneCells]; exact h1) (by omega) hlen hroom hK
  intro j q hq
  have hadd : (⟨g, 0, none⟩ : Addr).add j = ⟨g, j, none⟩ := by unfold Addr.add; split <;> simp_all
  rw [hadd]
  rw [oneCells] at hq
  exact hu j q hq

/-- append(s, u), u laid into a new block just before. -/
theorem St.app1n {P : Program} {w0 W : World} {μ : List Asrt} {t e : TypeId} {size bytes : Nat} (E : ET P t e size bytes) {ops : Array Oper} {rest : List Oper} {o : Oper} {a : Act} {Q : Exit → Act → World → Prop} {cs : Array Value} {T : TypeId}
    (hgd : o.guard = none) (s x : Operand) (ho : o.op = .call { callee := .builtin .append, args := #[s, x], argTypes := #[t, t] }) {v : Value} {xs : List Value} (hs : a.eval s = v)
    (h : St w0 W (aOwn e size v xs :: μ)) (u : Value) (hcs : cs = u.cells) (g c : Nat) (hx : a.eval x = .slice (some ⟨g, 0, none⟩) 1 c) (hg : g = W.heap.size)
    (hsz : u.cells.size = size) (h1 : ∀ q ∈ u.cells.toList, q.oneCell' = true) (hlen : xs.length + 1 ≤ maxLen) (hroom : (xs.length + 1) * bytes ≤ 140737488355328)
    (hK : ∀ g' n' cap w', St w0 w' (aOwn e size (.slice (some ⟨g', 0, none⟩) n' cap) (xs ++ [u]) :: μ) → wpList P ops Q rest (a.put o.dst (.slice (some ⟨g', 0, none⟩) n' cap)) w') : wpList P ops Q (o :: rest) a (W.alloc (.cells cs T)) := by
  subst hg hcs
  exact St.app1 E hgd s x ho hs (h.skip _) u _ c hx (fun j q hq => cells_lit _ _ j q hq) hsz h1 hlen hroom hK

/-- The same at a step of a region that draws its order. -/
theorem St.step1n {P : Program} {w0 W : World} {μ : List Asrt} {t e : TypeId} {size bytes : Nat} (E : ET P t e size bytes) {ops : Array Oper} {o : Oper} {a : Act} {K : Act → World → Prop} {Q : Exit → Act → World → Prop} {cs : Array Value} {T : TypeId} {EE : Prop}
    (hgd : o.guard = none) (s x : Operand) (ho : o.op = .call { callee := .builtin .append, args := #[s, x], argTypes := #[t, t] }) {v : Value} {xs : List Value} (hs : a.eval s = v)
    (h : St w0 W (aOwn e size v xs :: μ)) (u : Value) (hcs : cs = u.cells) (g c : Nat) (hx : a.eval x = .slice (some ⟨g, 0, none⟩) 1 c) (hg : g = W.heap.size)
    (hsz : u.cells.size = size) (h1 : ∀ q ∈ u.cells.toList, q.oneCell' = true) (hlen : xs.length + 1 ≤ maxLen) (hroom : (xs.length + 1) * bytes ≤ 140737488355328)
    (hK : ∀ g' n' cap w', St w0 w' (aOwn e size (.slice (some ⟨g', 0, none⟩) n' cap) (xs ++ [u]) :: μ) → K (a.put o.dst (.slice (some ⟨g', 0, none⟩) n' cap)) w') :
    if Region.wanted o (yielded ops a.tmps) = true then Oper.wp P o a (W.alloc (.cells cs T)) K Q else EE := by
  subst hg hcs
  have hw : Region.wanted o (yielded ops a.tmps) = true := by simp [Region.wanted, hgd]
  rw [if_pos hw]
  refine St.wpApp E s x ho hs (h.skip _) [u] ⟨W.heap.size, 0, none⟩ 1 c hx rfl (fun j q hq => ?_) (by simpa using hsz) (by rw [oneCells]; exact h1) (by omega) hlen hroom hK
  have hadd : (⟨W.heap.size, 0, none⟩ : Addr).add j = ⟨W.heap.size, j, none⟩ := by unfold Addr.add; split <;> simp_all
  rw [hadd]
  rw [oneCells] at hq
  exact cells_lit _ _ j q hq

theorem St.celAt {w0 w : World} {μ : List Asrt} {g : Nat} {T : TypeId} {cs : Array Value} (h : St w0 w (aCel g T cs :: μ)) {i : Nat} {v : Value} (hi : cs[i]? = some v) : w.cell? ⟨g, i, none⟩ = some v := by
  have := h.ok _ (.head _)
  simp only [aCel] at this
  simp [World.cell?, this, hi]
theorem St.celFree {w0 w : World} {μ : List Asrt} {g : Nat} {T : TypeId} {cs : Array Value} (h : St w0 w (aCel g T cs :: μ)) (i : Nat) : w.frozen? ⟨g, i, none⟩ = false :=
  frozen_of_row _ _ _ _ _ (h.ok _ (.head _))
theorem St.setCel {w0 w : World} {μ : List Asrt} {g : Nat} {T : TypeId} {cs : Array Value} (h : St w0 w (aCel g T cs :: μ)) (i : Nat) (v : Value) : St w0 (w.setCell ⟨g, i, none⟩ v) (aCel g T (cs.setIfInBounds i v) :: μ) := by
  refine h.upd rfl rfl rfl (by simp) (fun b hb hm => ?_) (heap_setCell_same _ _ _ _ _ _ (h.ok _ (.head _))) (fun b hb => .inl hb) (by simp [aCel])
  exact heap_setCell_other _ _ _ _ (fun e => hm (by simp [aCel, e]))
end Go.Proofs.Ytkhjncbjdldpbaa

/-
  How cells read as plain data, type by type; what came in, opened. (A helper text; it claims nothing of the program.)
-/
namespace Go.Proofs.Ytkhjncbjdldpbaa
set_option linter.unusedVariables false
open Go.ChangeShapes Go.WideShapes Go.ChangeAt Go.RowKit

/-- 'size' cells read as something of α, looking only into blocks of F. -/
structure Enc (α : Type) where
  size : Nat
  R : (Nat → Prop) → World → List Value → α → Prop
  len : ∀ {F w cs a}, R F w cs a → cs.length = size
  mono : ∀ {F F' : Nat → Prop} {w w' : World} {cs a}, R F w cs a → (∀ b, F b → F' b) → (∀ b, F b → w'.heap[b]? = w.heap[b]?) → R F' w' cs a

theorem cell_of_heap {w w' : World} {b o : Nat} (h : w'.heap[b]? = w.heap[b]?) : w'.cell? ⟨b, o, none⟩ = w.cell? ⟨b, o, none⟩ := World.cell?_of_block (w := w) h
theorem frozen_of_heap {w w' : World} {b o : Nat} (h : w'.heap[b]? = w.heap[b]?) : w'.frozen? ⟨b, o, none⟩ = w.frozen? ⟨b, o, none⟩ := World.frozen?_of_block (w := w) h

namespace Enc
def int (k : IntKind) : Enc Int where
  size := 1
  R := fun _ _ cs n => cs = [.int k n] ∧ (Lit.int k n).wf = true
  len := fun h => by rw [h.1]; rfl
  mono := fun h _ _ => h
def bool : Enc Bool where
  size := 1
  R := fun _ _ cs b => cs = [.bool b]
  len := fun h => by rw [h]; rfl
  mono := fun h _ _ => h
def str : Enc ByteArray where
  size := 1
  R := fun _ _ cs s => cs = [.string s] ∧ s.size ≤ 140737488355328
  len := fun h => by rw [h.1]; rfl
  mono := fun h _ _ => h
/-- An array of n numbers. -/
def row (k : IntKind) (n : Nat) : Enc (List Int) where
  size := n
  R := fun _ _ cs l => cs = l.map (Value.int k) ∧ l.length = n ∧ ∀ x ∈ l, (Lit.int k x).wf = true
  len := fun h => by rw [h.1, List.length_map, h.2.1]
  mono := fun h _ _ => h
def prod {α β : Type} (E : Enc α) (E' : Enc β) : Enc (α × β) where
  size := E.size + E'.size
  R := fun F w cs x => ∃ c1 c2, cs = c1 ++ c2 ∧ E.R F w c1 x.1 ∧ E'.R F w c2 x.2
  len := by rintro F w cs a ⟨c1, c2, rfl, h1, h2⟩; rw [List.length_append, E.len h1, E'.len h2]
  mono := by
    rintro F F' w w' cs a ⟨c1, c2, rfl, h1, h2⟩ hF hb
    exact ⟨c1, c2, rfl, E.mono h1 hF hb, E'.mono h2 hF hb⟩
/-- A slice, its elements 'bytes' bytes each. -/
def sl {α : Type} (E : Enc α) (bytes : Nat) : Enc (List α) where
  size := 1
  R := fun F w cs l => ∃ (ao : Option Addr) (b off cap : Nat), cs = [.slice ao l.length cap] ∧ l.length ≤ cap ∧ cap ≤ maxLen ∧ (l.length : Int) * bytes ≤ 140737488355328 ∧ (ao = none → cap = 0) ∧
    (0 < l.length → ao = some ⟨b, off, none⟩ ∧ b < w.heap.size ∧ F b) ∧
    ∀ i (h : i < l.length), ∃ cs, cs.length = E.size ∧ (∀ j, j < E.size → w.cell? ⟨b, off + i * E.size + j, none⟩ = cs[j]?) ∧ E.R F w cs l[i]
  len := by rintro F w cs a ⟨_, _, _, _, rfl, _⟩; rfl
  mono := by
    rintro F F' w w' cs l ⟨ao, b, off, cap, rfl, h1, h2, h3, h4, h5, h6⟩ hF hb
    refine ⟨ao, b, off, cap, rfl, h1, h2, h3, h4, fun hl => ?_, fun i hi => ?_⟩
    · obtain ⟨g1, g2, g3⟩ := h5 hl
      refine ⟨g1, ?_, hF _ g3⟩
      have := hb b g3
      rw [Array.getElem?_eq_getElem g2] at this
      exact (Array.getElem?_eq_some_iff.1 this).1
    · obtain ⟨c, g1, g2, g3⟩ := h6 i hi
      refine ⟨c, g1, fun j hj => ?_, E.mono g3 hF hb⟩
      rw [cell_of_heap (hb b (h5 (by omega)).2.2)]
      exact g2 j hj
end Enc

/-- The value v reads as a. -/
def Rd {α : Type} (E : Enc α) (F : Nat → Prop) (w : World) (v : Value) (a : α) : Prop := E.R F w v.cells.toList a
theorem Rd.mono {α : Type} {E : Enc α} {F F' : Nat → Prop} {w w' : World} {v : Value} {a : α} (h : Rd E F w v a) (hF : ∀ b, F b → F' b) (hb : ∀ b, F b → w'.heap[b]? = w.heap[b]?) : Rd E F' w' v a := E.mono h hF hb
theorem Rd.below {α : Type} {E : Enc α} {F : Nat → Prop} {w w' : World} {v : Value} {a : α} {B : Nat} (h : Rd E F w v a) (hb : Below B w w') (hF : ∀ b, F b → b < B) : Rd E F w' v a :=
  E.mono h (fun _ h => h) fun b h => hb.block b (hF b h)

/-! What comes in. -/
section
variable {H : Type}
def Light (P : Program) (t : TypeId) (d : DataW H) : Prop := ∀ n ∈ d.weights P t, n ≤ reachBytes
end
/-- Whatever is read at type t reads as E says. -/
structure Opens (P : Program) (t : TypeId) {α : Type} (E : Enc α) : Prop where
  h : ∀ {H : Type} {enc : TypeId × Value → H} {w : World} {base : Nat} {spare : Nat → Bool} {held : Bool} {fuel : Nat} {cs : List Value} {x : DataW H × List MemPlace},
    DataW.trod enc P w base spare held fuel t cs = some x → Light P t x.1 → ∃ a, E.R (fun b => b < w.heap.size) w cs a

theorem Opens.int {P : Program} {t : TypeId} {k : IntKind} (ht : P.underlying t = some (.int k)) : Opens P t (Enc.int k) := by
  constructor
  intro H enc w base spare held fuel cs x h _
  obtain ⟨m, h1, _, h2⟩ := DataW.trod_int ht h
  exact ⟨m, h1, h2⟩
theorem Opens.bool {P : Program} {t : TypeId} (ht : P.underlying t = some .bool) : Opens P t Enc.bool := by
  constructor
  intro H enc w base spare held fuel cs x h _
  obtain ⟨m, h1, _⟩ := DataW.trod_bool ht h
  exact ⟨m, h1⟩
theorem Opens.str {P : Program} {t : TypeId} (ht : P.underlying t = some .string) : Opens P t Enc.str := by
  constructor
  intro H enc w base spare held fuel cs x h hl
  obtain ⟨m, h1, h3, h2⟩ := DataW.trod_string ht h
  refine ⟨m, h1, ?_⟩
  have := hl m.size (by rw [h3]; simp [DataW.weights])
  unfold reachBytes at this
  omega
theorem Opens.row {P : Program} {t e : TypeId} {n : Nat} {k : IntKind} (ht : P.underlying t = some (.array n e)) (he : P.underlying e = some (.int k)) (hc : P.cellsOf e = 1) (hct : P.cellsOf t = n) : Opens P t (Enc.row k n) := by
  constructor
  intro H enc w base spare held fuel cs x h _
  exact rRow ht he hc hct h
theorem Opens.sl {P : Program} {t e : TypeId} {α : Type} {E : Enc α} {bytes : Nat} (ht : P.underlying t = some (.slice e)) (hs : P.cellsOf e = E.size) (hp : 0 < E.size) (hby : P.bytesOf e = bytes) (hE : Opens P e E) : Opens P t (Enc.sl E bytes) := by
  constructor
  intro H enc w base spare held fuel cs x h hl
  rcases DataW.trod_slice ht h with ⟨h0, _⟩ | ⟨a, len, cap, elems, rest, n, _, rfl, hx, hb, hlc, hm, hlen, hel, hrl, _⟩
  · subst h0
    exact ⟨[], none, 0, 0, 0, rfl, Nat.le_refl _, by decide, by simp, fun _ => rfl, fun h => by simp at h, fun i hi => by simp at hi⟩
  · subst hby
    obtain ⟨b, off, spot⟩ := a
    have hwt : x.1.weights P t = ((elems.map (·.1)).length + (rest.map (·.1)).length) * P.bytesOf e :: (DataW.weightsAll P e (elems.map (·.1)) ++ DataW.weightsAll P e (rest.map (·.1))) := by
      rw [hx, DataW.weights, ht]
    have hw : (elems.length : Int) * (P.bytesOf e : Int) ≤ 140737488355328 := by
      have := hl (((elems.map (·.1)).length + (rest.map (·.1)).length) * P.bytesOf e) (by rw [hwt]; exact .head _)
      unfold reachBytes at this
      rw [List.length_map, Nat.add_mul] at this
      have h3 := Nat.le_trans (Nat.le_add_right _ _) this
      clear this
      rw [← Int.natCast_mul]
      omega
    have light : ∀ i (hi : i < elems.length), Light P e (elems[i]).1 := by
      intro i hi m hm2
      refine hl m ?_
      rw [hwt]
      refine .tail _ (List.mem_append.2 (.inl ?_))
      have hmem : (elems[i]).1 ∈ elems.map (·.1) := List.mem_map.2 ⟨_, List.getElem_mem hi, rfl⟩
      clear hw hl hel hlen hx hwt
      generalize elems.map (·.1) = L at hmem
      induction L with
      | nil => cases hmem
      | cons d r ih =>
        rw [DataW.weightsAll, List.mem_append]
        rcases List.mem_cons.1 hmem with h | h
        · rw [← h]; exact .inl hm2
        · exact .inr (ih h)
    have each : ∀ i, i < len → ∃ q : α × List Value, (∃ cs', w.cells? base ((⟨b, off, spot⟩ : Addr).add (i * P.cellsOf e)) (P.cellsOf e) = some cs' ∧ q.2 = cs' ∧ E.R (fun b => b < w.heap.size) w cs' q.1) := by
      intro i hi
      have h1 := hel i hi
      rw [List.getElem?_eq_getElem (by omega)] at h1
      obtain ⟨cs', h2, h3⟩ := Option.bind_eq_some_iff.1 h1
      obtain ⟨hbb, hl2, _⟩ := World.cells?_some h2
      obtain ⟨a, ha⟩ := hE.h h3 (light i (by omega))
      exact ⟨(a, cs'), cs', h2, rfl, ha⟩
    obtain ⟨l, hl1, hl2⟩ := list_of_each each
    have spot0 : 0 < len → spot = none ∧ b < w.heap.size := by
      intro hpos
      obtain ⟨cs0, g2, _, _⟩ := hl2 0 (by omega)
      obtain ⟨_, g3, gc⟩ := World.cells?_some g2
      have h0 := gc 0 (by omega)
      rw [List.getElem?_eq_getElem (by omega)] at h0
      have hz : ((⟨b, off, spot⟩ : Addr).add (0 * P.cellsOf e)).add 0 = ⟨b, off, spot⟩ := by simp [Addr.add]
      rw [hz] at h0
      exact ⟨World.cell?_spot h0, World.block_lt_of_cell? w _ h0⟩
    refine ⟨l.map (·.1), some ⟨b, off, spot⟩, b, off, cap, by simp [hl1], by simp [hl1]; omega, hm, ?_, (fun h => by cases h), fun hpos => ?_, fun i hi => ?_⟩
    · rw [List.length_map, hl1, ← hlen]
      exact hw
    · have hi0 : 0 < l.length := by simpa using hpos
      obtain ⟨h1, h2⟩ := spot0 (by omega)
      subst h1
      exact ⟨rfl, h2, h2⟩
    · have hi0 : i < l.length := by simpa using hi
      obtain ⟨cs', h2, h5, h6⟩ := hl2 i hi0
      obtain ⟨_, hl3, hc⟩ := World.cells?_some h2
      obtain ⟨h7, _⟩ := spot0 (by omega)
      subst h7
      refine ⟨cs', by rw [hl3, hs], fun j hj => ?_, by simpa [h5] using h6⟩
      rw [← hs] at hj
      rw [← hc j hj]
      congr 1
      rw [hs]
      unfold Addr.add
      by_cases e1 : i * E.size = 0 <;> by_cases e2 : j = 0 <;> simp [e1, e2]

/-- From field i on (offset o): the rest of a struct. -/
structure OpensFrom (P : Program) (fs : Array Field) (i o : Nat) {α : Type} (E : Enc α) : Prop where
  h : ∀ {H : Type} {enc : TypeId × Value → H} {w : World} {base : Nat} {spare : Nat → Bool} {held : Bool} {m : Nat} {cs : List Value},
    cs.length = o + E.size → (∀ k f, i ≤ k → fs[k]? = some f → ∃ y, DataW.trod enc P w base spare held m f.type ((cs.drop f.offset).take (P.cellsOf f.type)) = some y ∧ Light P f.type y.1) → ∃ a, E.R (fun b => b < w.heap.size) w (cs.drop o) a

theorem OpensFrom.last {P : Program} {fs : Array Field} {i o : Nat} {α : Type} {E : Enc α} {f : Field} (hf : fs[i]? = some f) (ho : f.offset = o) (hc : P.cellsOf f.type = E.size) (hO : Opens P f.type E) : OpensFrom P fs i o E := by
  constructor
  intro H enc w base spare held m cs hl h
  obtain ⟨y, hy, hlt⟩ := h i f (Nat.le_refl _) hf
  rw [ho, List.take_of_length_le (by rw [List.length_drop]; omega)] at hy
  exact hO.h hy hlt
theorem OpensFrom.cons {P : Program} {fs : Array Field} {i o : Nat} {α β : Type} {E : Enc α} {E' : Enc β} {f : Field} (hf : fs[i]? = some f) (ho : f.offset = o) (hc : P.cellsOf f.type = E.size) (hO : Opens P f.type E) (hT : OpensFrom P fs (i + 1) (o + E.size) E') : OpensFrom P fs i o (E.prod E') := by
  constructor
  intro H enc w base spare held m cs hl h
  obtain ⟨y, hy, hlt⟩ := h i f (Nat.le_refl _) hf
  rw [ho, hc] at hy
  obtain ⟨a, ha⟩ := hO.h hy hlt
  obtain ⟨b, hb⟩ := hT.h (by rw [hl]; simp only [Enc.prod]; omega) fun k f hk hf => h k f (by omega) hf
  refine ⟨(a, b), _, _, ?_, ha, hb⟩
  rw [← List.drop_drop, List.take_append_drop]
theorem Opens.struct {P : Program} {t : TypeId} {fs : Array Field} {α : Type} {E : Enc α} (ht : P.underlying t = some (.struct fs)) (hc : P.cellsOf t = E.size) (h : OpensFrom P fs 0 0 E) : Opens P t E := by
  constructor
  intro H enc w base spare held fuel cs x hx hl
  obtain ⟨xs, n, _, hx1, hlen, hfs, hel⟩ := DataW.trod_struct ht hx
  have := h.h (m := n) (cs := cs) (by rw [hlen, hc, Nat.zero_add]) fun k f _ hf => by
    have hk : k < fs.size := (Array.getElem?_eq_some_iff.1 hf).1
    have h1 := hel k f hf
    rw [List.getElem?_eq_getElem (by omega)] at h1
    refine ⟨_, h1, fun m hm => hl m ?_⟩
    have e : x.1.weights P t = DataW.weightsEach P (fs.toList.map (·.type)) (xs.map (·.1)) := by rw [hx1, DataW.weights, ht]
    rw [e]
    exact DataW.weights_mem_each (j := k) (t := f.type) (by simp [hf]) (by rw [List.getElem?_map, List.getElem?_eq_getElem (by omega)]; rfl) m hm
  exact this

/-- An argument. -/
theorem open_arg {P : Program} {t : TypeId} {α : Type} {E : Enc α} (hO : Opens P t E) {H : Type} {enc : TypeId × Value → H} {w : World} {base : Nat} {spare : Nat → Bool} {held : Bool} {v : Value} {d : DataW H} {p : List MemPlace} (h : DataW.Trod enc P w base spare held t v d p) (hl : Light P t d) : ∃ a, Rd E (fun b => b < w.heap.size) w v a := by
  obtain ⟨fuel, hf⟩ := h
  exact hO.h hf hl
theorem light_of {H : Type} {P : Program} {ts : List TypeId} {ds : List (DataW H)} (h : (DataW.weightsEach P ts ds).all (· ≤ reachBytes) = true) {j : Nat} {t : TypeId} {d : DataW H} (ht : ts[j]? = some t) (hd : ds[j]? = some d) : Light P t d := fun n hn => by
  have := List.all_eq_true.1 h n (DataW.weights_mem_each ht hd n hn)
  simpa using this
theorem wf64 {n : Int} (h : (Lit.int .i64 n).wf = true) : -9223372036854775808 ≤ n ∧ n ≤ 9223372036854775807 := by
  simpa [Lit.wf, IntKind.min, IntKind.max, IntKind.signed, IntKind.bits] using h
end Go.Proofs.Ytkhjncbjdldpbaa

/-
  Steps of a walk over what the call owns and what came in: make, append, reading back. (A helper text; it claims nothing of the program.)
-/
namespace Go.Proofs.Ytkhjncbjdldpbaa
set_option linter.unusedVariables false
open Go.ChangeShapes Go.WideShapes Go.ChangeAt Go.RowKit

theorem cells_one_list {z : Value} (hz : z.cells = #[z]) (n : Nat) : cellsOf (List.replicate n z) = List.replicate n z := by
  induction n with
  | zero => rfl
  | succ n ih => rw [List.replicate_succ]; simp only [cellsOf, List.flatMap_cons, hz] at ih ⊢; rw [ih]; rfl

theorem own_mk (w : World) (e : TypeId) (z : Value) (hz : z.cells = #[z]) (n : Nat) (hn : n ≤ maxLen) : Own (w.alloc (.cells (madeCells #[z] n) e)) 0 e 1 (.slice (some ⟨w.heap.size, 0, none⟩) n n) (List.replicate n z) := by
  unfold Own
  rw [cells_one_list hz, List.length_replicate]
  refine ⟨by simp, .inr ⟨w.heap.size, n, madeCells #[z] n, rfl, Nat.zero_le _, heap_alloc_new _ _, Nat.le_refl _, hn, ?_, ?_⟩⟩
  · simp [madeCells]
  · simp only [madeCells, Array.toList_map, Array.toList_range, Nat.mul_one]
    rw [List.take_of_length_le (by simp)]
    apply List.ext_getElem (by simp)
    intro i h1 h2
    simp [Nat.mod_one]

/-- make([]T, n), an element being one cell. -/
theorem St.make {P : Program} {w0 w : World} {μ : List Asrt} {ops : Array Oper} {rest : List Oper} {o : Oper} {a : Act} {Q : Exit → Act → World → Prop} {t e : TypeId} {bytes : Nat} {z : Value} (hgd : o.guard = none) (l : Operand) (hop : o.op = Op.makeSlice t l l)
    (ht : P.underlying t = some (.slice e)) (hi : (P.info? e).map (fun i => (i.zero, i.size, i.bytes)) = some (some z, 1, bytes)) (hz : z.cells = #[z]) (h : St w0 w μ) (n : Nat) (hl : a.eval l = .int .i64 (n : Int)) (hn : (bytes : Int) * n ≤ 140737488355328) (hb : 0 < bytes)
    (hK : ∀ g w', St w0 w' (aOwn e 1 (.slice (some ⟨g, 0, none⟩) n n) (List.replicate n z) :: μ) → wpList P ops Q rest (a.put o.dst (.slice (some ⟨g, 0, none⟩) n n)) w') : wpList P ops Q (o :: rest) a w := by
  obtain ⟨i, h1, h2, h3, h4⟩ := info_parts hi
  have hle : n ≤ bytes * n := Nat.le_mul_of_pos_left n hb
  have hn' : bytes * n ≤ 140737488355328 := by rw [← Int.natCast_mul] at hn; omega
  refine wpList_make_row w hgd l l t hop e i z ht h1 h2 h3 hz .i64 .i64 n hl hl (by rw [h4]; omega) (by omega) (hK w.heap.size _ ?_)
  refine h.push ((Below.refl _ _).alloc (Nat.le_refl _) _) (own_mk w e z hz n (by unfold maxLen; omega)) (fun b hb => ?_) (by simp [aOwn, Value.ownBlock])
  simp [aOwn, Value.ownBlock] at hb
  subst hb
  simp

/-- append(s, l...) of a slice that reads as a list. -/
theorem St.appSl {P : Program} {w0 w : World} {μ : List Asrt} {t e : TypeId} {size bytes b2 : Nat} (E : ET P t e size bytes) {ops : Array Oper} {rest : List Oper} {o : Oper} {a : Act} {Q : Exit → Act → World → Prop}
    (hgd : o.guard = none) (s x : Operand) (ho : o.op = .call { callee := .builtin .append, args := #[s, x], argTypes := #[t, t] }) {v : Value} {xs : List Value} (hs : a.eval s = v)
    (h : St w0 w (aOwn e size v xs :: μ)) {α : Type} {En : Enc α} (hes : En.size = size) {F : Nat → Prop} {u : Value} {l : List α} (hl : (En.sl b2).R F w [u] l) (hx : a.eval x = u) (f : α → Value) (hf : ∀ w cs a, En.R F w cs a → cs = (f a).cells.toList) (h1 : ∀ a, ∀ q ∈ (f a).cells.toList, q.oneCell' = true)
    (hroom : ((xs.length + l.length : Nat) : Int) * bytes ≤ 140737488355328) (hlen : ((xs.length + l.length : Nat) : Int) ≤ 140737488355328)
    (hK : ∀ v' w', St w0 w' (aOwn e size v' (xs ++ l.map f) :: μ) → wpList P ops Q rest (a.put o.dst v') w') : wpList P ops Q (o :: rest) a w := by
  obtain ⟨ao, b, off, cap, hu, c1, c2, c3, c4, c5, c6⟩ := hl
  simp only [List.cons.injEq, and_true] at hu
  subst hu
  cases ao with
  | none =>
    have hl0 : l.length = 0 := by
      rcases Nat.eq_zero_or_pos l.length with h | h
      · exact h
      · have := (c5 h).1; cases this
    have hl1 := List.eq_nil_of_length_eq_zero hl0
    subst hl1
    have hc := c4 rfl
    subst hc
    obtain ⟨ht, ⟨i, z, hi, hz, hsize, hby, hzs⟩, hp⟩ := E
    refine wpList_append_own_none hgd s x t ho 0 e i size ht hi v xs.length (cellsOf xs) hs (h.ok _ (.head _)) hx (hK v w ?_)
    simpa using h
  | some ad =>
    have hcells : ∀ i (hi : i < l.length), (∀ j, j < size → w.cell? ⟨b, off + i * size + j, none⟩ = ((f l[i]).cells.toList)[j]?) ∧ (f l[i]).cells.toList.length = size := by
      intro i hi
      obtain ⟨cs, g1, g2, g3⟩ := c6 i hi
      have := hf _ _ _ g3
      subst this
      rw [hes] at g1 g2
      exact ⟨g2, g1⟩
    have hsz : ∀ u ∈ l.map f, u.cells.size = size := by
      intro u hu
      obtain ⟨y, hy, rfl⟩ := List.mem_map.1 hu
      obtain ⟨i, hi, rfl⟩ := List.getElem_of_mem hy
      rw [← Array.length_toList]
      exact (hcells i hi).2
    have hcl := cellsOf_len hsz
    rw [List.length_map] at hcl
    have hpos := E.pos
    have hread : ∀ j q, (cellsOf (l.map f))[j]? = some q → w.cell? (ad.add j) = some q := by
      intro j q hq
      have hj : j < l.length * size := by
        rw [← hcl]
        exact (List.getElem?_eq_some_iff.1 hq).1
      have hl0 : 0 < l.length := by
        rcases Nat.eq_zero_or_pos l.length with h | h
        · rw [h] at hj; omega
        · exact h
      obtain ⟨e1, _, _⟩ := c5 hl0
      cases e1
      have e2 : (⟨b, off, none⟩ : Addr).add j = ⟨b, off + j, none⟩ := by unfold Addr.add; split <;> simp_all
      rw [e2]
      have hi : j / size < l.length := (Nat.div_lt_iff_lt_mul hpos).2 hj
      have hm : j % size < size := Nat.mod_lt _ hpos
      have h3 := (hcells _ hi).1 _ hm
      rw [show off + j / size * size + j % size = off + j by rw [Nat.add_assoc, Nat.div_add_mod']] at h3
      rw [h3, ← hq]
      clear h3 hq
      symm
      have := cellsOf_get hsz (j / size) (by rw [List.length_map]; exact hi) (j % size) hm
      rw [Nat.div_add_mod'] at this
      rw [this]
      simp
    obtain ⟨v', w', hr, h2, h3, h4, h5⟩ := run_append_where (ty := o.type) E (v := v) (xs := xs) (h.ok _ (.head _)) ad l.length cap (cellsOf (l.map f)) hcl hread (by
        intro q hq
        obtain ⟨u, hu, hq2⟩ := List.mem_flatMap.1 hq
        obtain ⟨y, hy, rfl⟩ := List.mem_map.1 hu
        exact h1 y q hq2) (by unfold maxLen; omega) (by rw [← Int.natCast_mul] at hroom; omega)
    refine wpList_plain hgd fun K hK' => ?_
    unfold Oper.wp execOp
    simp only [ho, resolve, invoke, builtin, Sem.run_bind, Sem.run_pure, Result.andThen_ok, List.map_toArray, List.map_cons, List.map_nil, hs, hx, hr]
    refine hK' _ _ (hK v' w' ?_)
    have ho2 : Own w' 0 e size v' (xs ++ l.map f) := by
      unfold Own
      rw [cellsOf_append, List.length_append, List.length_map]
      exact h2
    refine h.upd h3.os h3.tape h3.output h3.size (fun b hb hm => ?_) ho2 (fun b hb => ?_) (nodup_ob _)
    · exact h3.block b hb fun e => hm (by simp [aOwn, ← e])
    · have hb' : v'.ownBlock = some b := by simpa [aOwn] using hb
      rcases h4 b hb' with h6 | h6
      · exact .inl (by simpa [aOwn] using h6)
      · exact .inr ⟨h6, (ho2.lt b hb').2⟩

/-- What the call owns reads as a list. -/
theorem Own.enc {α : Type} {En : Enc α} {w : World} {B : Nat} {e : TypeId} {size bytes : Nat} {v : Value} {l : List α} {f : α → Value} {F : Nat → Prop} (h : Own w B e size v (l.map f)) (hes : En.size = size) (hR : ∀ a ∈ l, En.R F w (f a).cells.toList a) (hF : ∀ b ∈ v.ownBlock.toList, F b)
    (hb : (l.length : Int) * bytes ≤ 140737488355328) : (En.sl bytes).R F w [v] l := by
  have hsz : ∀ u ∈ l.map f, u.cells.size = size := by
    intro u hu
    obtain ⟨y, hy, rfl⟩ := List.mem_map.1 hu
    rw [← Array.length_toList, En.len (hR y hy), hes]
  have hr := h
  unfold Own at hr
  rw [List.length_map] at hr
  rcases hr.2 with ⟨h1, h2⟩ | ⟨g, cap, cur, rfl, hB, hg, hn, hc, hcs, htk⟩
  · have : l = [] := List.eq_nil_of_length_eq_zero h2
    subst this
    exact ⟨none, 0, 0, 0, by rw [h1]; rfl, Nat.le_refl _, by decide, by simp, fun _ => rfl, fun h => by simp at h, fun i hi => by simp at hi⟩
  · refine ⟨some ⟨g, 0, none⟩, g, 0, cap, rfl, hn, hc, hb, (fun h => by cases h), fun _ => ⟨rfl, (Array.getElem?_eq_some_iff.1 hg).1, hF g (by simp [Value.ownBlock])⟩, fun i hi => ⟨_, ?_, fun j hj => ?_, hR _ (List.getElem_mem hi)⟩⟩
    · rw [En.len (hR _ (List.getElem_mem hi))]
    · rw [hes] at hj ⊢
      have h3 := cellsOf_get hsz i (by rw [List.length_map]; exact hi) j hj
      rw [List.getElem_map] at h3
      rw [← h3, Nat.zero_add, ← htk]
      have hlt : i * size + j < l.length * size := by
        have : (i + 1) * size ≤ l.length * size := Nat.mul_le_mul_right _ hi
        rw [Nat.add_mul] at this; omega
      rw [List.getElem?_take, if_pos hlt]
      simp [World.cell?, hg]
theorem Enc.toSl {α : Type} {En : Enc α} {bytes : Nat} {F : Nat → Prop} {w : World} {v : Value} {l : List α} (h : (En.sl bytes).R F w [v] l) : Sl w En.size (En.R F w) v l := by
  obtain ⟨ao, b, off, cap, hu, c1, c2, c3, c4, c5, c6⟩ := h
  simp only [List.cons.injEq, and_true] at hu
  exact ⟨ao, b, off, cap, hu, c1, c2, fun h => ⟨(c5 h).1, (c5 h).2.1⟩, c6⟩
theorem St.fpOwn {w0 w : World} {μ : List Asrt} {e : TypeId} {size : Nat} {v : Value} {xs : List Value} (h : St w0 w (aOwn e size v xs :: μ)) : ∀ b ∈ v.ownBlock.toList, w0.heap.size ≤ b ∧ b < w.heap.size := h.lo _ (.head _)

/-- A slice of one-cell elements that reads as a list: its cells. -/
theorem Enc.sl1 {α : Type} {En : Enc α} {bytes : Nat} {F : Nat → Prop} {w : World} {v : Value} {l : List α} (f : α → Value) (hf : ∀ w cs a, En.R F w cs a → cs = [f a]) (hs : En.size = 1) (d : α) (h : (En.sl bytes).R F w [v] l) :
    ∃ (ao : Option Addr) (b off cap : Nat), v = .slice ao l.length cap ∧ (l.length : Int) * bytes ≤ 140737488355328 ∧ (0 < l.length → ao = some ⟨b, off, none⟩ ∧ b < w.heap.size ∧ F b) ∧ ∀ i, i < l.length → w.cell? ⟨b, off + i, none⟩ = some (f (l.getD i d)) ∧ En.R F w [f (l.getD i d)] (l.getD i d) := by
  obtain ⟨ao, b, off, cap, hu, c1, c2, c3, c4, c5, c6⟩ := h
  simp only [List.cons.injEq, and_true] at hu
  refine ⟨ao, b, off, cap, hu, c3, c5, fun i hi => ?_⟩
  obtain ⟨cs, g1, g2, g3⟩ := c6 i hi
  have e := hf _ _ _ g3
  subst e
  have := g2 0 (by omega)
  rw [hs, Nat.mul_one, Nat.add_zero] at this
  have e2 : l.getD i d = l[i] := by simp [List.getD, List.getElem?_eq_getElem hi]
  rw [e2]
  exact ⟨by rw [this]; rfl, g3⟩
/-- A slice whose elements are n plain cells each. -/
theorem Enc.slN {α : Type} {En : Enc α} {bytes : Nat} {F : Nat → Prop} {w : World} {v : Value} {l : List α} (d : α) (h : (En.sl bytes).R F w [v] l) :
    ∃ (ao : Option Addr) (b off cap : Nat), v = .slice ao l.length cap ∧ (l.length : Int) * bytes ≤ 140737488355328 ∧ (0 < l.length → ao = some ⟨b, off, none⟩ ∧ b < w.heap.size ∧ F b) ∧ ∀ i, i < l.length → ∃ cs, cs.length = En.size ∧ (∀ j, j < En.size → w.cell? ⟨b, off + i * En.size + j, none⟩ = cs[j]?) ∧ En.R F w cs (l.getD i d) := by
  obtain ⟨ao, b, off, cap, hu, c1, c2, c3, c4, c5, c6⟩ := h
  simp only [List.cons.injEq, and_true] at hu
  refine ⟨ao, b, off, cap, hu, c3, c5, fun i hi => ?_⟩
  have e2 : l.getD i d = l[i] := by simp [List.getD, List.getElem?_eq_getElem hi]
  rw [e2]
  exact c6 i hi
end Go.Proofs.Ytkhjncbjdldpbaa

/-
  What reads as plain data, in memory that the call made (the blocks fp) or that was there before it (world w0). (A helper text; it claims nothing of the program.)
-/
namespace Go.Proofs.Ytkhjncbjdldpbaa
set_option linter.unusedVariables false
open Go.ChangeShapes Go.WideShapes Go.ChangeAt Go.RowKit

/-- The values vs read as l, looking into blocks of fp and into what was there in w0. -/
def aRd {α : Type} (E : Enc α) (w0 : World) (fp : List Nat) (vs : List Value) (l : α) : Asrt where
  fp := fp
  ok := fun w => ∀ w', (∀ b, b < w0.heap.size → w'.heap[b]? = w0.heap[b]?) → (∀ b ∈ fp, w'.heap[b]? = w.heap[b]?) → E.R (fun b => b < w0.heap.size ∨ b ∈ fp) w' vs l
  loc := fun w w' h hw w2 h0 h1 => hw w2 h0 fun b hb => (h1 b hb).trans (h b hb)

section
variable {α : Type} {E : Enc α} {w0 w w' : World} {μ : List Asrt} {fp : List Nat} {vs : List Value} {l : α}
theorem St.rd (h : St w0 w (aRd E w0 fp vs l :: μ)) : E.R (fun b => b < w0.heap.size ∨ b ∈ fp) w vs l := h.ok _ (.head _) w (fun b hb => h.bel.block b hb) (fun _ _ => rfl)
theorem St.rdLt (h : St w0 w (aRd E w0 fp vs l :: μ)) : E.R (fun b => b < w.heap.size) w vs l :=
  E.mono h.rd (fun b hb => hb.elim (fun h1 => Nat.lt_of_lt_of_le h1 h.bel.size) (fun h1 => (h.lo _ (.head _) b h1).2)) (fun _ _ => rfl)
/-- What was there before. -/
theorem St.pushOld {F : Nat → Prop} (h : St w0 w μ) (hr : E.R F w0 vs l) (hF : ∀ b, F b → b < w0.heap.size) : St w0 w (aRd E w0 [] vs l :: μ) :=
  h.push (Below.refl _ _) (fun w' h0 _ => E.mono hr (fun b hb => .inl (hF b hb)) (fun b hb => h0 b (hF b hb))) (fun b hb => by cases hb) (by simp [aRd])
end

/-- One assertion for another one with the same or fewer blocks. -/
theorem St.turn {w0 w : World} {A A' : Asrt} {μ : List Asrt} (h : St w0 w (A :: μ)) (hfp : A'.fp = A.fp) (hok : A'.ok w) : St w0 w (A' :: μ) := by
  refine h.upd rfl rfl rfl (Nat.le_refl _) (fun _ _ _ => rfl) hok (fun b hb => .inl (by rw [← hfp]; exact hb)) ?_
  rw [hfp]
  have := h.sep
  simp only [List.flatMap_cons] at this
  exact (List.nodup_append.1 this).1

theorem St.one' {w0 w : World} {μ : List Asrt} {A : Asrt} (h : St w0 w μ) (hA : A ∈ μ) : St w0 w [A] := by
  refine ⟨h.bel, fun X hX => ?_, fun X hX => ?_, ?_⟩
  · rw [List.mem_singleton.1 hX]; exact h.ok A hA
  · rw [List.mem_singleton.1 hX]; exact h.lo A hA
  · simp only [List.flatMap_cons, List.flatMap_nil, List.append_nil]
    obtain ⟨s, t, rfl⟩ := List.append_of_mem hA
    have h3 := h.sep
    rw [List.flatMap_append, List.flatMap_cons] at h3
    exact (List.nodup_append.1 (List.nodup_append.1 h3).2.1).1

/-- What the call owns, read. -/
theorem St.ownRd {α : Type} {En : Enc α} {w0 w : World} {μ : List Asrt} {e : TypeId} {size bytes : Nat} {v : Value} {l : List α} {f : α → Value} (h : St w0 w (aOwn e size v (l.map f) :: μ)) (hes : En.size = size) (hR : ∀ F W, ∀ a ∈ l, En.R F W (f a).cells.toList a) (hb : (l.length : Int) * bytes ≤ 140737488355328) :
    St w0 w (aRd (En.sl bytes) w0 v.ownBlock.toList [v] l :: μ) := by
  refine h.turn rfl (fun w' h0 h1 => ?_)
  have ho := (aOwn e size v (l.map f)).loc w w' h1 (h.ok _ (.head _))
  exact Own.enc (f := f) ho hes (fun a ha => hR _ _ a ha) (fun b hb => .inr hb) hb

theorem Own.isLen {w : World} {B : Nat} {e : TypeId} {size : Nat} {v : Value} {xs : List Value} (h : Own w B e size v xs) : ∃ ao cap, v = .slice ao xs.length cap := by
  rcases h.shape with ⟨h1, h2⟩ | ⟨g, cap, h1, _⟩
  · exact ⟨none, 0, by rw [h1, h2]; rfl⟩
  · exact ⟨_, _, h1⟩

theorem St.cel3 {w0 w : World} {μ : List Asrt} {g : Nat} {T : TypeId} {v0 v1 v2 : Value} (h : St w0 w (aCel g T #[v0, v1, v2] :: μ)) :
    w.cell? ⟨g, 0, none⟩ = some v0 ∧ w.cell? ⟨g, 1, none⟩ = some v1 ∧ w.cell? ⟨g, 2, none⟩ = some v2 ∧ w.frozen? ⟨g, 0, none⟩ = false ∧ w.frozen? ⟨g, 1, none⟩ = false ∧ w.frozen? ⟨g, 2, none⟩ = false :=
  ⟨h.celAt rfl, h.celAt rfl, h.celAt rfl, h.celFree 0, h.celFree 1, h.celFree 2⟩
end Go.Proofs.Ytkhjncbjdldpbaa

/-
  What the call owns, by its place in the list. (A helper text; it claims nothing of the program.)
-/
namespace Go.Proofs.Ytkhjncbjdldpbaa
set_option linter.unusedVariables false
open Go.ChangeShapes Go.WideShapes Go.ChangeAt Go.RowKit

section
variable {w0 w : World} {μ : List Asrt}
theorem St.cel2 {g : Nat} {T : TypeId} {v0 v1 : Value} (h : St w0 w (aCel g T #[v0, v1] :: μ)) : w.cell? ⟨g, 0, none⟩ = some v0 ∧ w.cell? ⟨g, 1, none⟩ = some v1 := ⟨h.celAt rfl, h.celAt rfl⟩
/-- The i-th assertion. -/
theorem St.nth {A : Asrt} (h : St w0 w μ) (i : Nat) (hA : μ[i]? = some A) : St w0 w [A] := h.one' (List.mem_of_getElem? hA)
theorem St.at3 {g : Nat} {T : TypeId} {v0 v1 v2 : Value} (h : St w0 w μ) (i : Nat) (hA : μ[i]? = some (aCel g T #[v0, v1, v2])) : w.cell? ⟨g, 0, none⟩ = some v0 ∧ w.cell? ⟨g, 1, none⟩ = some v1 ∧ w.cell? ⟨g, 2, none⟩ = some v2 := by
  have := (h.nth i hA).cel3
  exact ⟨this.1, this.2.1, this.2.2.1⟩
theorem St.at2 {g : Nat} {T : TypeId} {v0 v1 : Value} (h : St w0 w μ) (i : Nat) (hA : μ[i]? = some (aCel g T #[v0, v1])) : w.cell? ⟨g, 0, none⟩ = some v0 ∧ w.cell? ⟨g, 1, none⟩ = some v1 := (h.nth i hA).cel2
theorem St.heapAt {g : Nat} {T : TypeId} {cs : Array Value} (h : St w0 w μ) (i : Nat) (hA : μ[i]? = some (aCel g T cs)) : w.heap[g]? = some (.cells cs T (0, 0)) := (h.nth i hA).ok _ (.head _)
theorem St.ownAt {e : TypeId} {size : Nat} {v : Value} {xs : List Value} (h : St w0 w μ) (i : Nat) (hA : μ[i]? = some (aOwn e size v xs)) : Own w w0.heap.size e size v xs := (h.nth i hA).own
end
end Go.Proofs.Ytkhjncbjdldpbaa

/-
  A slice of a slice, as lists; more on what a call owns. (A helper text; it claims nothing of the program.)
-/
namespace Go.Proofs.Ytkhjncbjdldpbaa
set_option linter.unusedVariables false
open Go.ChangeShapes Go.WideShapes Go.ChangeAt Go.RowKit

theorem Enc.sliced {α : Type} {E : Enc α} {bytes : Nat} {F : Nat → Prop} {w : World} {ao : Option Addr} {cap : Nat} {l : List α} (h : (E.sl bytes).R F w [.slice ao l.length cap] l) (lo hi : Nat) (h1 : lo ≤ hi) (h2 : hi ≤ l.length) :
    (E.sl bytes).R F w [Go.sliced ao lo hi cap E.size] ((l.take hi).drop lo) := by
  obtain ⟨ao', b, off, cap', e, c1, c2, c3, c4, c5, c6⟩ := h
  simp only [List.cons.injEq, Value.slice.injEq, true_and, and_true] at e
  obtain ⟨rfl, rfl⟩ := e
  have hlen : ((l.take hi).drop lo).length = hi - lo := by simp; omega
  have hby : (((l.take hi).drop lo).length : Int) * bytes ≤ 140737488355328 := by
    rw [hlen]
    refine Int.le_trans ?_ c3
    exact Int.mul_le_mul_of_nonneg_right (by omega) (by omega)
  cases ao with
  | none =>
    have hl0 : l.length = 0 := by
      rcases Nat.eq_zero_or_pos l.length with h | h
      · exact h
      · have := (c5 h).1; cases this
    have hc := c4 rfl
    subst hc
    refine ⟨none, 0, 0, 0, ?_, by rw [hlen]; omega, by decide, hby, fun _ => rfl, fun h => by rw [hlen] at h; omega, fun i hi => by rw [hlen] at hi; omega⟩
    simp [Go.sliced, hlen]
  | some a =>
    by_cases hp : 0 < hi - lo
    · obtain ⟨e1, hb, hF⟩ := c5 (by omega)
      cases e1
      refine ⟨some ⟨b, off + lo * E.size, none⟩, b, off + lo * E.size, cap - lo, ?_, by rw [hlen]; omega, by omega, hby, (fun h => by cases h), fun _ => ⟨rfl, hb, hF⟩, fun i hi2 => ?_⟩
      · rw [hlen, Go.sliced, if_neg (by omega)]
        simp only [Option.map_some, Addr.add]
        split
        · rename_i h0; rw [h0]; rfl
        · rfl
      · rw [hlen] at hi2
        obtain ⟨cs, g1, g2, g3⟩ := c6 (lo + i) (by omega)
        refine ⟨cs, g1, fun j hj => ?_, ?_⟩
        · rw [← g2 j hj, show off + lo * E.size + i * E.size + j = off + (lo + i) * E.size + j by rw [Nat.add_mul]; omega]
        · have e2 : ((l.take hi).drop lo)[i]'(by rw [hlen]; exact hi2) = l[lo + i]'(by omega) := by simp
          rw [e2]; exact g3
    · refine ⟨if cap = lo then some a else some (a.add (lo * E.size)), 0, 0, cap - lo, ?_, by rw [hlen]; omega, by omega, hby, (fun h => by split at h <;> cases h), fun h => by rw [hlen] at h; omega, fun i hi2 => by rw [hlen] at hi2; omega⟩
      rw [hlen, Go.sliced]
      simp

section
variable {w0 w w' : World} {μ ν : List Asrt} {A B C D E : Asrt}
theorem St.get5 (h : St w0 w (A :: B :: C :: D :: E :: μ)) : St w0 w (E :: A :: B :: C :: D :: μ) :=
  h.perm ((((((List.Perm.swap _ _ _).cons _).cons _).cons _).trans ((((List.Perm.swap _ _ _).cons _).cons _).trans (((List.Perm.swap _ _ _).cons _).trans (List.Perm.swap _ _ _)))))
/-- The first two alone. -/
theorem St.two (h : St w0 w (A :: B :: μ)) : St w0 w [A, B] := by
  refine ⟨h.bel, fun X hX => h.ok X ?_, fun X hX => h.lo X ?_, ?_⟩
  · rcases List.mem_cons.1 hX with rfl | hX
    · exact .head _
    · rw [List.mem_singleton.1 hX]; exact .tail _ (.head _)
  · rcases List.mem_cons.1 hX with rfl | hX
    · exact .head _
    · rw [List.mem_singleton.1 hX]; exact .tail _ (.head _)
  · refine h.sep.sublist ?_
    simp only [List.flatMap_cons, List.flatMap_nil, List.append_nil]
    exact (List.Sublist.refl _).append (List.sublist_append_left _ _)
/-- What a call has made is the caller's. -/
theorem St.join (h : St w0 w μ) (h2 : St w w' ν) : St w0 w' (ν ++ μ) := by
  have h3 := h.call h2.bel
  refine ⟨h3.bel, fun X hX => ?_, fun X hX b hb => ?_, ?_⟩
  · rcases List.mem_append.1 hX with hX | hX
    · exact h2.ok X hX
    · exact h3.ok X hX
  · rcases List.mem_append.1 hX with hX | hX
    · exact ⟨Nat.le_trans h.bel.size (h2.lo X hX b hb).1, (h2.lo X hX b hb).2⟩
    · exact h3.lo X hX b hb
  · rw [List.flatMap_append, List.nodup_append]
    refine ⟨h2.sep, h.sep, fun b hb c hc e => ?_⟩
    subst e
    obtain ⟨X, hX, hb2⟩ := List.mem_flatMap.1 hb
    obtain ⟨Y, hY, hc2⟩ := List.mem_flatMap.1 hc
    have := (h2.lo X hX b hb2).1
    have := (h.lo Y hY b hc2).2
    omega
end
end Go.Proofs.Ytkhjncbjdldpbaa

/-
  Many assertions as one; a result whose parts lie in several blocks, all made by the call. (A helper text; it claims nothing of the program.)
-/
namespace Go.Proofs.Ytkhjncbjdldpbaa
set_option linter.unusedVariables false
open Go.ChangeShapes Go.WideShapes Go.ChangeAt Go.RowKit

/-- All of them. -/
def aAll (As : List Asrt) : Asrt where
  fp := As.flatMap (·.fp)
  ok := fun w => ∀ A ∈ As, A.ok w
  loc := fun w w' h hw A hA => A.loc w w' (fun b hb => h b (List.mem_flatMap.2 ⟨A, hA, hb⟩)) (hw A hA)
/-- The values vs read as l, all of it in the blocks fp. -/
def aEnc {α : Type} (E : Enc α) (fp : List Nat) (vs : List Value) (l : α) : Asrt where
  fp := fp
  ok := fun w => E.R (fun b => b ∈ fp) w vs l
  loc := fun w w' h hw => E.mono hw (fun _ h => h) h

section
variable {w0 w w' : World} {μ : List Asrt} {A : Asrt} {As : List Asrt}
theorem St.nilAll (h : St w0 w μ) : St w0 w (aAll [] :: μ) := h.push (Below.refl _ _) (fun _ h => by cases h) (fun b hb => by simp [aAll] at hb) (by simp [aAll])
theorem St.snoc (h : St w0 w (A :: aAll As :: μ)) : St w0 w (aAll (As ++ [A]) :: μ) := by
  refine ⟨h.bel, fun B hB => ?_, fun B hB b hb => ?_, ?_⟩
  · rcases List.mem_cons.1 hB with rfl | hB
    · intro C hC
      rcases List.mem_append.1 hC with h1 | h1
      · exact h.ok _ (.tail _ (.head _)) C h1
      · rw [List.mem_singleton.1 h1]; exact h.ok _ (.head _)
    · exact h.ok B (.tail _ (.tail _ hB))
  · rcases List.mem_cons.1 hB with rfl | hB
    · simp only [aAll, List.flatMap_append, List.mem_append, List.flatMap_cons, List.flatMap_nil, List.append_nil] at hb
      rcases hb with h1 | h1
      · exact h.lo _ (.tail _ (.head _)) b h1
      · exact h.lo _ (.head _) b h1
    · exact h.lo B (.tail _ (.tail _ hB)) b hb
  · have := h.sep
    simp only [aAll, List.flatMap_cons, List.flatMap_append, List.flatMap_nil, List.append_nil] at this ⊢
    refine (List.Perm.nodup_iff ?_).1 this
    rw [← List.append_assoc]
    exact (List.perm_append_comm).append_right _
theorem St.allAt (h : St w0 w (aAll As :: μ)) (B : Asrt) (hB : B ∈ As) : B.ok w := h.ok _ (.head _) B hB
/-- Two assertions as one. -/
theorem St.merge {B C : Asrt} (h : St w0 w (A :: B :: μ)) (hfp : C.fp = A.fp ++ B.fp) (hok : A.ok w → B.ok w → C.ok w) : St w0 w (C :: μ) := by
  refine ⟨h.bel, fun D hD => ?_, fun D hD b hb => ?_, ?_⟩
  · rcases List.mem_cons.1 hD with rfl | hD
    · exact hok (h.ok _ (.head _)) (h.ok _ (.tail _ (.head _)))
    · exact h.ok D (.tail _ (.tail _ hD))
  · rcases List.mem_cons.1 hD with rfl | hD
    · rw [hfp] at hb
      rcases List.mem_append.1 hb with h1 | h1
      · exact h.lo _ (.head _) b h1
      · exact h.lo _ (.tail _ (.head _)) b h1
    · exact h.lo D (.tail _ (.tail _ hD)) b hb
  · have := h.sep
    simp only [List.flatMap_cons] at this ⊢
    rw [hfp, List.append_assoc]
    exact this
theorem St.encR {α : Type} {E : Enc α} {fp : List Nat} {vs : List Value} {l : α} (h : St w0 w (aEnc E fp vs l :: μ)) : E.R (fun b => b < w.heap.size) w vs l :=
  E.mono (h.ok _ (.head _)) (fun b hb => (h.lo _ (.head _) b hb).2) (fun _ _ => rfl)
theorem St.encAt {α : Type} {E : Enc α} {fp : List Nat} {vs : List Value} {l : α} (h : St w0 w μ) (i : Nat) (hA : μ[i]? = some (aEnc E fp vs l)) : E.R (fun b => b < w.heap.size) w vs l := (h.nth i hA).encR
end

/-- Seen through g. -/
def Enc.via {α β : Type} (En : Enc α) (g : β → α) : Enc β where
  size := En.size
  R := fun F w cs q => En.R F w cs (g q)
  len := fun h => En.len h
  mono := fun h => En.mono h
theorem Enc.viaSl {α β : Type} {En : Enc α} {g : β → α} {bytes : Nat} {F : Nat → Prop} {w : World} {vs : List Value} {L : List β} (h : ((En.via g).sl bytes).R F w vs L) : (En.sl bytes).R F w vs (L.map g) := by
  obtain ⟨ao, b, off, cap, h0, h1, h2, h3, h4, h5, h6⟩ := h
  refine ⟨ao, b, off, cap, by rw [List.length_map]; exact h0, by rw [List.length_map]; exact h1, h2, by rw [List.length_map]; exact h3, h4, by rw [List.length_map]; exact h5, fun i hi => ?_⟩
  rw [List.length_map] at hi
  obtain ⟨cs, g1, g2, g3⟩ := h6 i hi
  exact ⟨cs, g1, g2, by rw [List.getElem_map]; exact g3⟩
theorem Own.encVia {α β : Type} {En : Enc α} {w : World} {B : Nat} {e : TypeId} {size bytes : Nat} {v : Value} {L : List β} {f : β → Value} {g : β → α} {F : Nat → Prop} (h : Own w B e size v (L.map f)) (hes : En.size = size) (hR : ∀ q ∈ L, En.R F w (f q).cells.toList (g q)) (hF : ∀ b ∈ v.ownBlock.toList, F b)
    (hb : (L.length : Int) * bytes ≤ 140737488355328) : (En.sl bytes).R F w [v] (L.map g) :=
  Enc.viaSl (Own.enc (En := En.via g) (f := f) h hes hR hF hb)

/-- A slice of things that have parts of their own: as one. -/
theorem St.sealed {α β : Type} {En : Enc α} {w0 w : World} {μ : List Asrt} {e : TypeId} {size bytes : Nat} {v : Value} {L : List β} {f : β → Value} {g : β → α} {A : β → Asrt} (h : St w0 w (aOwn e size v (L.map f) :: aAll (L.map A) :: μ)) (hes : En.size = size)
    (hR : ∀ q ∈ L, (A q).ok w → En.R (fun b => b ∈ (A q).fp) w (f q).cells.toList (g q)) (hb : (L.length : Int) * bytes ≤ 140737488355328) :
    ∃ fp, St w0 w (aEnc (En.sl bytes) fp [v] (L.map g) :: μ) := by
  refine ⟨v.ownBlock.toList ++ (aAll (L.map A)).fp, h.merge rfl (fun h1 h2 => ?_)⟩
  refine Own.encVia (f := f) h1 hes (fun q hq => ?_) (fun b hb => List.mem_append.2 (.inl hb)) hb
  exact En.mono (hR q hq (h2 _ (List.mem_map.2 ⟨q, hq, rfl⟩))) (fun b hb => List.mem_append.2 (.inr (List.mem_flatMap.2 ⟨_, List.mem_map.2 ⟨q, hq, rfl⟩, hb⟩))) (fun _ _ => rfl)
theorem St.ownEnc {α : Type} {En : Enc α} {w0 w : World} {μ : List Asrt} {e : TypeId} {size bytes : Nat} {v : Value} {l : List α} {f : α → Value} (h : St w0 w (aOwn e size v (l.map f) :: μ)) (hes : En.size = size) (hR : ∀ F W, ∀ a ∈ l, En.R F W (f a).cells.toList a) (hb : (l.length : Int) * bytes ≤ 140737488355328) :
    St w0 w (aEnc (En.sl bytes) v.ownBlock.toList [v] l :: μ) :=
  h.turn rfl (Own.enc (f := f) (h.ok _ (.head _)) hes (fun a ha => hR _ _ a ha) (fun b hb => hb) hb)
/-- A callee's results. -/
theorem St.joined {w0 w w' : World} {μ ν : List Asrt} (h : St w0 w μ) (h2 : St w w' ν) : St w0 w' (ν ++ μ) := h.join h2
end Go.Proofs.Ytkhjncbjdldpbaa

/-
  Two assertions as one. (A helper text; it claims nothing of the program.)
-/
namespace Go.Proofs.Ytkhjncbjdldpbaa
set_option linter.unusedVariables false
open Go.ChangeShapes Go.WideShapes Go.ChangeAt Go.RowKit

/-- Two assertions as one. -/
def aPair (X Y : Asrt) : Asrt := ⟨X.fp ++ Y.fp, fun w => X.ok w ∧ Y.ok w, fun w w' hb h => ⟨X.loc w w' (fun b hb' => hb b (List.mem_append_left _ hb')) h.1, Y.loc w w' (fun b hb' => hb b (List.mem_append_right _ hb')) h.2⟩⟩
section
variable {w0 w : World} {μ : List Asrt} {X Y : Asrt}
theorem St.pair (h : St w0 w (X :: Y :: μ)) : St w0 w (aPair X Y :: μ) := h.merge rfl (fun a b => ⟨a, b⟩)
theorem St.unpair (h : St w0 w (aPair X Y :: μ)) : St w0 w (X :: Y :: μ) := by
  have hp := h.ok _ (.head _)
  refine ⟨h.bel, fun D hD => ?_, fun D hD b hb => ?_, ?_⟩
  · rcases List.mem_cons.1 hD with rfl | hD
    · exact hp.1
    · rcases List.mem_cons.1 hD with rfl | hD
      · exact hp.2
      · exact h.ok D (.tail _ hD)
  · rcases List.mem_cons.1 hD with rfl | hD
    · exact h.lo _ (.head _) b (List.mem_append_left _ hb)
    · rcases List.mem_cons.1 hD with rfl | hD
      · exact h.lo _ (.head _) b (List.mem_append_right _ hb)
      · exact h.lo D (.tail _ hD) b hb
  · have := h.sep
    simp only [List.flatMap_cons] at this ⊢
    rw [← List.append_assoc]
    exact this
end
end Go.Proofs.Ytkhjncbjdldpbaa

/-
  What the call owns, in another order, some of it left out. (A helper text; it claims nothing of the program.)
-/
namespace Go.Proofs.Ytkhjncbjdldpbaa
set_option linter.unusedVariables false
open Go.ChangeShapes Go.WideShapes Go.ChangeAt Go.RowKit

def picks (is : List Nat) (k : Nat) : Bool := is.all (· < k) && decide is.Nodup
/-- Those of the first k that 'is' names, in that order; and all behind them. -/
theorem St.pick {w0 w : World} {μ ρ : List Asrt} (h : St w0 w μ) (is : List Nat) (k : Nat) (hi : picks is k = true) (he : is.filterMap (fun i => μ[i]?) ++ μ.drop k = ρ) : St w0 w ρ := by
  unfold picks at hi
  rw [Bool.and_eq_true, List.all_eq_true, decide_eq_true_eq] at hi
  obtain ⟨hk, hnd⟩ := hi
  have hmem : ∀ A ∈ ρ, A ∈ μ := by
    intro A hA
    rw [← he, List.mem_append, List.mem_filterMap] at hA
    rcases hA with ⟨i, _, hi⟩ | hA
    · exact List.mem_of_getElem? hi
    · exact List.mem_of_mem_drop hA
  refine ⟨h.bel, fun A hA => h.ok A (hmem A hA), fun A hA => h.lo A (hmem A hA), ?_⟩
  have hs := h.sep
  unfold List.Nodup at hs hnd ⊢
  rw [List.pairwise_flatMap] at hs ⊢
  refine ⟨fun A hA => hs.1 A (hmem A hA), ?_⟩
  have hp := List.pairwise_iff_getElem.1 hs.2
  have hij : ∀ (i j : Nat) (A B : Asrt), i ≠ j → μ[i]? = some A → μ[j]? = some B → ∀ x ∈ A.fp, ∀ y ∈ B.fp, x ≠ y := by
    intro i j A B hne hA hB x hx y hy
    obtain ⟨h1, rfl⟩ := List.getElem?_eq_some_iff.1 hA
    obtain ⟨h2, rfl⟩ := List.getElem?_eq_some_iff.1 hB
    rcases Nat.lt_or_gt_of_ne hne with hlt | hlt
    · exact hp i j h1 h2 hlt x hx y hy
    · exact fun e => hp j i h2 h1 hlt y hy x hx e.symm
  rw [← he, List.pairwise_append]
  refine ⟨?_, hs.2.sublist (List.drop_sublist k μ), ?_⟩
  · rw [List.pairwise_filterMap]
    exact hnd.imp (fun {i j} hne A hA B hB => hij i j A B hne hA hB)
  · intro A hA B hB
    rw [List.mem_filterMap] at hA
    obtain ⟨i, hi, hA⟩ := hA
    obtain ⟨j, hj⟩ := List.mem_iff_getElem?.1 hB
    rw [List.getElem?_drop] at hj
    have := hk i hi
    rw [decide_eq_true_eq] at this
    exact hij i (k + j) A B (by omega) hA hj
end Go.Proofs.Ytkhjncbjdldpbaa

/-
  One of many assertions taken out, and laid back. (A helper text; it claims nothing of the program.)
-/
namespace Go.Proofs.Ytkhjncbjdldpbaa
set_option linter.unusedVariables false
open Go.ChangeShapes Go.WideShapes Go.ChangeAt Go.RowKit

theorem St.re {w0 w : World} {μ ν : List Asrt} (h : St w0 w μ) (hok : ∀ A ∈ ν, A.ok w) (hp : (μ.flatMap (·.fp)).Perm (ν.flatMap (·.fp))) : St w0 w ν := by
  refine ⟨h.bel, hok, fun A hA b hb => ?_, (hp.nodup_iff).1 h.sep⟩
  have h1 : b ∈ μ.flatMap (·.fp) := hp.mem_iff.2 (List.mem_flatMap.2 ⟨A, hA, hb⟩)
  obtain ⟨B, hB, hb2⟩ := List.mem_flatMap.1 h1
  exact h.lo B hB b hb2
section
variable {w0 w : World} {μ : List Asrt} {A : Asrt} {l1 l2 : List Asrt}
theorem St.allTake (h : St w0 w (aAll (l1 ++ A :: l2) :: μ)) : St w0 w (A :: aAll (l1 ++ l2) :: μ) := by
  refine h.re (fun B hB => ?_) ?_
  · rcases List.mem_cons.1 hB with rfl | hB
    · exact h.allAt B (by simp)
    · rcases List.mem_cons.1 hB with rfl | hB
      · intro C hC
        exact h.allAt C (by simp only [List.mem_append, List.mem_cons] at hC ⊢; rcases hC with h | h <;> simp [h])
      · exact h.ok B (.tail _ hB)
  · simp only [List.flatMap_cons, aAll, List.flatMap_append, ← List.append_assoc]
    exact ((List.perm_append_comm).append_right _).append_right _
theorem St.allPut (h : St w0 w (A :: aAll (l1 ++ l2) :: μ)) : St w0 w (aAll (l1 ++ A :: l2) :: μ) := by
  refine h.re (fun B hB => ?_) ?_
  · rcases List.mem_cons.1 hB with rfl | hB
    · intro C hC
      have h2 : ∀ D ∈ l1 ++ l2, D.ok w := h.ok _ (.tail _ (.head _))
      simp only [List.mem_append, List.mem_cons] at hC
      rcases hC with h1 | rfl | h1
      · exact h2 C (by simp [h1])
      · exact h.ok _ (.head _)
      · exact h2 C (by simp [h1])
    · exact h.ok B (.tail _ (.tail _ hB))
  · simp only [List.flatMap_cons, aAll, List.flatMap_append, ← List.append_assoc]
    exact ((List.perm_append_comm).append_right _).append_right _
theorem St.allTakeAt {β : Type} {f : β → Asrt} {q : List β} (h : St w0 w (aAll (q.map f) :: μ)) (k : Nat) (hk : k < q.length) (d : β) : St w0 w (f (q.getD k d) :: aAll ((q.eraseIdx k).map f) :: μ) := by
  have e : q.map f = (q.take k).map f ++ f (q.getD k d) :: (q.drop (k + 1)).map f := by
    have e2 : q = q.take k ++ q.getD k d :: q.drop (k + 1) := by
      rw [show q.getD k d = q[k] by simp [List.getD, List.getElem?_eq_getElem hk], ← List.drop_eq_getElem_cons hk, List.take_append_drop]
    have e3 := congrArg (List.map f) e2
    rw [List.map_append, List.map_cons] at e3
    exact e3
  rw [e] at h
  have h2 := h.allTake
  rw [← List.map_append, ← List.eraseIdx_eq_take_drop_succ] at h2
  exact h2
theorem St.allPutAt {β : Type} {f : β → Asrt} {q : List β} {x : β} {k : Nat} (h : St w0 w (f x :: aAll ((q.eraseIdx k).map f) :: μ)) (hk : k < q.length) : St w0 w (aAll ((q.set k x).map f) :: μ) := by
  rw [List.eraseIdx_eq_take_drop_succ, List.map_append] at h
  have h2 := h.allPut
  rw [← List.map_cons, ← List.map_append] at h2
  rw [List.set_eq_take_append_cons_drop, if_pos hk]
  exact h2
end
end Go.Proofs.Ytkhjncbjdldpbaa

/-
  A slice of slices of slices of truths that the call made, as one assertion. (A helper text; it claims nothing of the program.)
-/
namespace Go.Proofs.Ytkhjncbjdldpbaa
set_option linter.unusedVariables false
open Go.ChangeShapes Go.WideShapes Go.ChangeAt Go.RowKit

namespace Cube
/-- A row: where it lies, its truths. A plane: where the rows' slices lie, its rows. -/
abbrev Row := Nat × List Bool
abbrev Pl := (Option Addr × Nat) × List Row
abbrev r0 : Row := (0, [])
abbrev p0 : Pl := ((none, 0), [])
def rowV (r : Row) : Value := .slice (some ⟨r.1, 0, none⟩) r.2.length r.2.length
def plV (q : Pl) : Value := .slice q.1.1 q.2.length q.1.2
def rowA (r : Row) : Asrt := aOwn 4 1 (rowV r) (r.2.map Value.bool)
def plA (q : Pl) : Asrt := aPair (aOwn 52 1 (plV q) (q.2.map rowV)) (aAll (q.2.map rowA))
def aCube (v : Value) (Q : List Pl) : Asrt := aPair (aOwn 109 1 v (Q.map plV)) (aAll (Q.map plA))
theorem rowV_one (r : Row) : (rowV r).cells = #[rowV r] := rfl
theorem plV_one (q : Pl) : (plV q).cells = #[plV q] := rfl
/-- Is it marked? -/
def mark (Q : List Pl) (p d k : Nat) : Bool := (((Q.getD p p0).2.getD d r0).2).getD k false
def put (Q : List Pl) (p d k : Nat) : List Pl := Q.set p ((Q.getD p p0).1, (Q.getD p p0).2.set d (((Q.getD p p0).2.getD d r0).1, ((Q.getD p p0).2.getD d r0).2.set k true))
/-- Its shape: as many rows as hd says, each of N. -/
def Shape (Q : List Pl) (np : Nat) (hd : Nat → Nat) (N : Nat) : Prop := Q.length = np ∧ ∀ p, p < np → (Q.getD p p0).2.length = hd p ∧ ∀ d, d < hd p → ((Q.getD p p0).2.getD d r0).2.length = N
section
variable {w0 w : World} {μ : List Asrt} {Q : List Pl} {v : Value} {np N : Nat} {hd : Nat → Nat}
theorem getD_set_same {α : Type} {l : List α} {i : Nat} {x d : α} (h : i < l.length) : (l.set i x).getD i d = x := by simp [List.getD, h]
theorem getD_set_ne {α : Type} {l : List α} {i j : Nat} {x d : α} (h : i ≠ j) : (l.set i x).getD j d = l.getD j d := by simp [List.getD, List.getElem?_set_ne h]
theorem put_shape (h : Shape Q np hd N) {p d k : Nat} (hp : p < np) (hdd : d < hd p) : Shape (put Q p d k) np hd N := by
  obtain ⟨h1, h2⟩ := h
  refine ⟨by rw [put, List.length_set, h1], fun p' hp' => ?_⟩
  by_cases e : p = p'
  · subst e
    rw [put, getD_set_same (by omega)]
    refine ⟨by rw [List.length_set]; exact (h2 p hp).1, fun d' hd' => ?_⟩
    by_cases e2 : d = d'
    · subst e2
      rw [getD_set_same (by rw [(h2 p hp).1]; exact hdd), List.length_set]
      exact (h2 p hp).2 d hdd
    · rw [getD_set_ne e2]; exact (h2 p hp).2 d' hd'
  · rw [put, getD_set_ne e]; exact h2 p' hp'
theorem mark_put (h : Shape Q np hd N) {p d k : Nat} (hp : p < np) (hdd : d < hd p) (hk : k < N) (p' d' k' : Nat) : mark (put Q p d k) p' d' k' = (mark Q p' d' k' || decide (p = p' ∧ d = d' ∧ k = k')) := by
  obtain ⟨h1, h2⟩ := h
  have hl := (h2 p hp).1
  have hr := (h2 p hp).2 d hdd
  unfold mark
  by_cases e : p = p'
  · subst e
    rw [put, getD_set_same (by omega)]
    by_cases e2 : d = d'
    · subst e2
      rw [getD_set_same (by rw [hl]; exact hdd)]
      by_cases e3 : k = k'
      · subst e3
        rw [getD_set_same (by rw [hr]; exact hk)]; simp
      · rw [getD_set_ne e3]; simp [e3]
    · rw [getD_set_ne e2]; simp [e2]
  · rw [put, getD_set_ne e]; simp [e]
theorem getD_get {α : Type} {l : List α} {i : Nat} (d : α) (h : i < l.length) : l[i] = l.getD i d := by simp [List.getD, h]
theorem memD {α : Type} {l : List α} {i : Nat} {d : α} (h : i < l.length) : l.getD i d ∈ l := by
  rw [List.getD_eq_getElem?_getD, List.getElem?_eq_getElem h]; exact List.getElem_mem _
/-- What a reading sees. -/
theorem reads (h : St w0 w (aCube v Q :: μ)) (hS : Shape Q np hd N) {g n c : Nat} (hv : v = .slice (some ⟨g, 0, none⟩) n c) {p d k : Nat} (hp : p < np) (hdd : d < hd p) (hk : k < N) :
    ∃ (gp cp gr : Nat), w.cell? ⟨g, p, none⟩ = some (.slice (some ⟨gp, 0, none⟩) (hd p) cp) ∧ w.cell? ⟨gp, d, none⟩ = some (.slice (some ⟨gr, 0, none⟩) N N) ∧ w.cell? ⟨gr, k, none⟩ = some (.bool (mark Q p d k)) ∧ w.frozen? ⟨gr, k, none⟩ = false ∧ gr = ((Q.getD p p0).2.getD d r0).1 := by
  obtain ⟨h1, h2⟩ := hS
  subst hv
  have hl := (h2 p hp).1
  have hr := (h2 p hp).2 d hdd
  have hu := h.unpair
  have hpQ : p < Q.length := by omega
  have c1 := (hu.nth 0 rfl).cellOwn (f := plV) plV_one p hpQ p0
  have hpl := (hu.nth 1 rfl).allAt (plA (Q.getD p p0)) (List.mem_map.2 ⟨_, memD hpQ, rfl⟩)
  have htk := (hu.pick (ρ := aAll (Q.map plA) :: μ) [1] 2 rfl rfl).allTakeAt (f := plA) p hpQ p0
  have hu2 := (show St w0 w (aPair (aOwn 52 1 (plV (Q.getD p p0)) ((Q.getD p p0).2.map rowV)) (aAll ((Q.getD p p0).2.map rowA)) :: aAll ((Q.eraseIdx p).map plA) :: μ) from htk).unpair
  generalize hq : Q.getD p p0 = q at *
  obtain ⟨⟨ao, cp⟩, rows⟩ := q
  simp only at hl hr
  have hdr : d < rows.length := by omega
  have hown := hu2.own
  obtain ⟨gp, hgp⟩ := (show Own w w0.heap.size 52 1 (.slice ao rows.length cp) (rows.map rowV) from hown).addr (by rw [List.length_map]; omega)
  subst hgp
  have c2 := (show St w0 w (aOwn 52 1 (.slice (some ⟨gp, 0, none⟩) rows.length cp) (rows.map rowV) :: aAll (rows.map rowA) :: aAll ((Q.eraseIdx p).map plA) :: μ) from hu2).cellOwn (f := rowV) rowV_one d hdr r0
  have htk2 := (hu2.drop).allTakeAt (f := rowA) d hdr r0
  have hrow := htk2.nth 0 rfl
  have hkl : k < (rows.getD d r0).2.length := by rw [hr]; exact hk
  have c3 := (show St w0 w [aOwn 4 1 (.slice (some ⟨(rows.getD d r0).1, 0, none⟩) (rows.getD d r0).2.length (rows.getD d r0).2.length) ((rows.getD d r0).2.map Value.bool)] from hrow).cellOwn (f := Value.bool) (fun _ => rfl) k hkl false
  refine ⟨gp, cp, (rows.getD d r0).1, ?_, ?_, ?_, ?_, rfl⟩
  · have := c1.1; simp only [plV] at this; rw [← hl]; exact this
  · have := c2.1; simp only [rowV] at this; rw [hr] at this; exact this
  · have := c3.1; unfold mark; rw [hq]; exact this
  · exact c3.2
theorem sets (h : St w0 w (aCube v Q :: μ)) (hS : Shape Q np hd N) {p d k : Nat} (hp : p < np) (hdd : d < hd p) :
    St w0 (w.setCell ⟨((Q.getD p p0).2.getD d r0).1, k, none⟩ (.bool true)) (aCube v (put Q p d k) :: μ) := by
  obtain ⟨h1, h2⟩ := hS
  have hl := (h2 p hp).1
  have hpQ : p < Q.length := by omega
  have hdr : d < (Q.getD p p0).2.length := by omega
  have hu := h.unpair
  have htk := (hu.pick (ρ := aAll (Q.map plA) :: aOwn 109 1 v (Q.map plV) :: μ) [1, 0] 2 rfl rfl).allTakeAt (f := plA) p hpQ p0
  have hu2 := (show St w0 w (aPair (aOwn 52 1 (plV (Q.getD p p0)) ((Q.getD p p0).2.map rowV)) (aAll ((Q.getD p p0).2.map rowA)) :: aAll ((Q.eraseIdx p).map plA) :: aOwn 109 1 v (Q.map plV) :: μ) from htk).unpair
  have htk2 := (hu2.pick (ρ := aAll ((Q.getD p p0).2.map rowA) :: aOwn 52 1 (plV (Q.getD p p0)) ((Q.getD p p0).2.map rowV) :: aAll ((Q.eraseIdx p).map plA) :: aOwn 109 1 v (Q.map plV) :: μ) [1, 0, 2, 3] 4 rfl rfl).allTakeAt (f := rowA) d hdr r0
  have hset := (show St w0 w (aOwn 4 1 (.slice (some ⟨((Q.getD p p0).2.getD d r0).1, 0, none⟩) ((Q.getD p p0).2.getD d r0).2.length ((Q.getD p p0).2.getD d r0).2.length) (((Q.getD p p0).2.getD d r0).2.map Value.bool) :: aAll (((Q.getD p p0).2.eraseIdx d).map rowA) :: aOwn 52 1 (plV (Q.getD p p0)) ((Q.getD p p0).2.map rowV) :: aAll ((Q.eraseIdx p).map plA) :: aOwn 109 1 v (Q.map plV) :: μ) from htk2).setOwn (f := Value.bool) (fun _ => rfl) k true
  have hput := St.allPutAt (f := rowA) (q := (Q.getD p p0).2) (x := (((Q.getD p p0).2.getD d r0).1, ((Q.getD p p0).2.getD d r0).2.set k true)) (k := d) (by
    unfold rowA rowV
    rw [List.length_set]
    exact hset) hdr
  have hpl := (hput.pick (ρ := aOwn 52 1 (plV (Q.getD p p0)) ((Q.getD p p0).2.map rowV) :: aAll (((Q.getD p p0).2.set d (((Q.getD p p0).2.getD d r0).1, ((Q.getD p p0).2.getD d r0).2.set k true)).map rowA) :: aAll ((Q.eraseIdx p).map plA) :: aOwn 109 1 v (Q.map plV) :: μ) [1, 0, 2, 3] 4 rfl rfl).pair
  have hrv : ((Q.getD p p0).2.set d (((Q.getD p p0).2.getD d r0).1, ((Q.getD p p0).2.getD d r0).2.set k true)).map rowV = (Q.getD p p0).2.map rowV := by
    rw [List.map_set]
    have : rowV (((Q.getD p p0).2.getD d r0).1, ((Q.getD p p0).2.getD d r0).2.set k true) = ((Q.getD p p0).2.map rowV)[d]'(by rw [List.length_map]; exact hdr) := by
      rw [List.getElem_map, getD_get r0 hdr]; simp only [rowV, List.length_set]
    rw [this, List.set_getElem_self]
  have hpv : plV ((Q.getD p p0).1, (Q.getD p p0).2.set d (((Q.getD p p0).2.getD d r0).1, ((Q.getD p p0).2.getD d r0).2.set k true)) = plV (Q.getD p p0) := by simp [plV]
  have hput2 := St.allPutAt (f := plA) (q := Q) (x := ((Q.getD p p0).1, (Q.getD p p0).2.set d (((Q.getD p p0).2.getD d r0).1, ((Q.getD p p0).2.getD d r0).2.set k true))) (k := p) (by
    unfold plA
    rw [hpv]
    simp only
    rw [hrv]
    exact hpl) hpQ
  have hqv : (put Q p d k).map plV = Q.map plV := by
    unfold put
    rw [List.map_set, hpv]
    have : plV (Q.getD p p0) = (Q.map plV)[p]'(by rw [List.length_map]; exact hpQ) := by
      rw [List.getElem_map, getD_get p0 hpQ]
    rw [this, List.set_getElem_self]
  have hfin := (hput2.pick (ρ := aOwn 109 1 v (Q.map plV) :: aAll ((put Q p d k).map plA) :: μ) [1, 0] 2 rfl rfl)
  rw [← hqv] at hfin
  exact hfin.pair
end
end Cube
end Go.Proofs.Ytkhjncbjdldpbaa

/-
  Slices of structs of two numbers. (A helper text; it claims nothing of the program.)
-/
namespace Go.Proofs.Ytkhjncbjdldpbaa
set_option linter.unusedVariables false
open Go.ChangeShapes Go.WideShapes Go.ChangeAt Go.RowKit

def Enc.two : Enc (Int × Int) := Enc.prod (Enc.int .i64) (Enc.int .i64)
def pairV (p : Int × Int) : Value := .agg #[.int .i64 p.1, .int .i64 p.2]
theorem two_cells {F : Nat → Prop} {w : World} {cs : List Value} {p : Int × Int} (h : Enc.two.R F w cs p) : cs = [.int .i64 p.1, .int .i64 p.2] ∧ (-9223372036854775808 ≤ p.1 ∧ p.1 ≤ 9223372036854775807) ∧ (-9223372036854775808 ≤ p.2 ∧ p.2 ≤ 9223372036854775807) := by
  obtain ⟨c1, c2, rfl, ⟨rfl, h1⟩, ⟨rfl, h2⟩⟩ := h
  exact ⟨rfl, wf64 h1, wf64 h2⟩
theorem two_mk {F : Nat → Prop} {w : World} {p : Int × Int} (h1 : -9223372036854775808 ≤ p.1 ∧ p.1 ≤ 9223372036854775807) (h2 : -9223372036854775808 ≤ p.2 ∧ p.2 ≤ 9223372036854775807) : Enc.two.R F w (pairV p).cells.toList p :=
  ⟨[.int .i64 p.1], [.int .i64 p.2], rfl, ⟨rfl, WalkArith.wf_i64 h1⟩, ⟨rfl, WalkArith.wf_i64 h2⟩⟩
theorem slTwo {bytes : Nat} {F : Nat → Prop} {w : World} {v : Value} {l : List (Int × Int)} (h : (Enc.two.sl bytes).R F w [v] l) :
    ∃ (ao : Option Addr) (b off cap : Nat), v = .slice ao l.length cap ∧ (l.length : Int) * bytes ≤ 140737488355328 ∧ (0 < l.length → ao = some ⟨b, off, none⟩ ∧ b < w.heap.size ∧ F b) ∧
      ∀ i, i < l.length → w.cell? ⟨b, off + i * 2, none⟩ = some (.int .i64 (l.getD i (0, 0)).1) ∧ w.cell? ⟨b, off + i * 2 + 1, none⟩ = some (.int .i64 (l.getD i (0, 0)).2) ∧
        (-9223372036854775808 ≤ (l.getD i (0, 0)).1 ∧ (l.getD i (0, 0)).1 ≤ 9223372036854775807) ∧ (-9223372036854775808 ≤ (l.getD i (0, 0)).2 ∧ (l.getD i (0, 0)).2 ≤ 9223372036854775807) := by
  obtain ⟨ao, b, off, cap, h0, h1, h2, h3⟩ := Enc.slN (0, 0) h
  refine ⟨ao, b, off, cap, h0, h1, h2, fun i hi => ?_⟩
  obtain ⟨cs, _, g2, g3⟩ := h3 i hi
  obtain ⟨rfl, g4, g5⟩ := two_cells g3
  exact ⟨g2 0 (by decide), g2 1 (by decide), g4, g5⟩
theorem Own.two {w : World} {B : Nat} {e : TypeId} {v : Value} {l : List (Int × Int)} {F : Nat → Prop} (h : Own w B e 2 v (l.map pairV)) (hF : ∀ b ∈ v.ownBlock.toList, F b) (hb : (l.length : Int) * 16 ≤ 140737488355328)
    (hw : ∀ p ∈ l, (-9223372036854775808 ≤ p.1 ∧ p.1 ≤ 9223372036854775807) ∧ (-9223372036854775808 ≤ p.2 ∧ p.2 ≤ 9223372036854775807)) : (Enc.two.sl 16).R F w [v] l :=
  Own.enc (En := Enc.two) (bytes := 16) h rfl (fun a ha => two_mk (hw a ha).1 (hw a ha).2) hF hb
/-- A struct of two numbers. -/
theorem opens_two {P : Program} {t : TypeId} {f0 f1 : Field} (ht : P.underlying t = some (.struct #[f0, f1])) (hc : P.cellsOf t = 2) (o0 : f0.offset = 0) (o1 : f1.offset = 1) (c0 : P.cellsOf f0.type = 1) (c1 : P.cellsOf f1.type = 1)
    (k0 : P.underlying f0.type = some (.int .i64)) (k1 : P.underlying f1.type = some (.int .i64)) : Opens P t Enc.two := by
  have h1 : OpensFrom P #[f0, f1] 1 1 (Enc.int .i64) := OpensFrom.last (f := f1) rfl o1 c1 (Opens.int k1)
  have h0 : OpensFrom P #[f0, f1] 0 0 (Enc.prod (Enc.int .i64) (Enc.int .i64)) := OpensFrom.cons (f := f0) rfl o0 c0 (Opens.int k0) h1
  exact Opens.struct ht hc h0
end Go.Proofs.Ytkhjncbjdldpbaa

/-
  A grammar as data; which symbols are its own.
-/
namespace Go.Proofs.Ytkhjncbjdldpbaa
set_option linter.unusedVariables false
open Go.ChangeShapes Go.WideShapes Go.ChangeAt Go.RowKit

def Enc.prods : Enc (List (Int × List (Int × Int))) := (Enc.prod (Enc.int .i64) (Enc.two.sl 16)).sl 32
theorem slProds {F : Nat → Prop} {w : World} {v : Value} {l : List (Int × List (Int × Int))} (h : Enc.prods.R F w [v] l) :
    ∃ (ao : Option Addr) (b off cap : Nat), v = .slice ao l.length cap ∧ (l.length : Int) * 32 ≤ 140737488355328 ∧ (0 < l.length → ao = some ⟨b, off, none⟩ ∧ b < w.heap.size ∧ F b) ∧
      ∀ i, i < l.length → ∃ vb, w.cell? ⟨b, off + i * 2, none⟩ = some (.int .i64 (l.getD i (0, [])).1) ∧ w.cell? ⟨b, off + i * 2 + 1, none⟩ = some vb ∧ (Enc.two.sl 16).R F w [vb] (l.getD i (0, [])).2 ∧
        (-9223372036854775808 ≤ (l.getD i (0, [])).1 ∧ (l.getD i (0, [])).1 ≤ 9223372036854775807) := by
  obtain ⟨ao, b, off, cap, h0, h1, h2, h3⟩ := Enc.slN (0, []) h
  refine ⟨ao, b, off, cap, h0, h1, h2, fun i hi => ?_⟩
  obtain ⟨cs, _, g2, g3⟩ := h3 i hi
  obtain ⟨c1, c2, rfl, ⟨rfl, hw⟩, hb⟩ := g3
  have hb2 := hb
  obtain ⟨ao2, b2, off2, cap2, rfl, _⟩ := hb2
  exact ⟨_, g2 0 (by decide), g2 1 (by decide), hb, wf64 hw⟩
theorem opens_prods {P : Program} {ts t sb sy : TypeId} {f0 f1 g0 g1 : Field} (hts : P.underlying ts = some (.slice t)) (ht : P.underlying t = some (.struct #[f0, f1])) (hsb : P.underlying f1.type = some (.slice sy)) (hsy : P.underlying sy = some (.struct #[g0, g1]))
    (hc : P.cellsOf t = 2) (hby : P.bytesOf t = 32) (o0 : f0.offset = 0) (o1 : f1.offset = 1) (c0 : P.cellsOf f0.type = 1) (c1 : P.cellsOf f1.type = 1) (k0 : P.underlying f0.type = some (.int .i64))
    (hcs : P.cellsOf sy = 2) (hbs : P.bytesOf sy = 16) (p0 : g0.offset = 0) (p1 : g1.offset = 1) (d0 : P.cellsOf g0.type = 1) (d1 : P.cellsOf g1.type = 1) (q0 : P.underlying g0.type = some (.int .i64)) (q1 : P.underlying g1.type = some (.int .i64)) : Opens P ts Enc.prods := by
  have hS : Opens P f1.type (Enc.two.sl 16) := Opens.sl hsb hcs (by decide) hbs (opens_two hsy hcs p0 p1 d0 d1 q0 q1)
  have h1 : OpensFrom P #[f0, f1] 1 1 (Enc.two.sl 16) := OpensFrom.last (f := f1) rfl o1 c1 hS
  have h0 : OpensFrom P #[f0, f1] 0 0 (Enc.prod (Enc.int .i64) (Enc.two.sl 16)) := OpensFrom.cons (f := f0) rfl o0 c0 (Opens.int k0) h1
  exact Opens.sl hts hc (by decide) hby (Opens.struct ht hc h0)

namespace Gr
def right (t n : Int) (x : Int × Int) : Bool := decide (x.1 = 1 ∧ 0 ≤ x.2 ∧ x.2 < t) || decide (x.1 = 2 ∧ 0 ≤ x.2 ∧ x.2 < n)
theorem right_yes {t n : Int} {x : Int × Int} (h : (x.1 = 1 ∧ 0 ≤ x.2 ∧ x.2 < t) ∨ (x.1 = 2 ∧ 0 ≤ x.2 ∧ x.2 < n)) : right t n x = true := by
  rcases h with h | h <;> simp [right, h]
theorem right_no {t n : Int} {x : Int × Int} (h : ¬ ((x.1 = 1 ∧ 0 ≤ x.2 ∧ x.2 < t) ∨ (x.1 = 2 ∧ 0 ≤ x.2 ∧ x.2 < n))) : right t n x = false := by
  cases hr : right t n x
  · rfl
  · exfalso; apply h
    simp only [right, Bool.or_eq_true, decide_eq_true_eq] at hr
    exact hr
theorem right_iff {t n : Int} {x : Int × Int} : right t n x = true ↔ (x.1 = 1 ∧ 0 ≤ x.2 ∧ x.2 < t) ∨ (x.1 = 2 ∧ 0 ≤ x.2 ∧ x.2 < n) := by
  simp only [right, Bool.or_eq_true, decide_eq_true_eq]
end Gr
attribute [irreducible] Gr.right

set_option maxRecDepth 100000 in
theorem right_any (t n : Int) (vp : Value) (x1 x2 : Int) (w : World) :
    Calls Try.prog 114 #[.agg #[.int .i64 t, .int .i64 n, vp], .agg #[.int .i64 x1, .int .i64 x2]] w fun e w' => e = .returned (.bool (Gr.right t n (x1, x2))) ∧ Below w.heap.size w w' := by
  by_cases k1 : x1 = 1
  · have e1 : ((x1 : Int) == 1) = true := by rw [beq_iff_eq]; omega
    have e2 : ((x1 : Int) == 2) = false := by rw [beq_eq_false_iff_ne]; omega
    have HK := Lib.hid k1; clear k1
    by_cases h0 : 0 ≤ x2
    · by_cases h1 : x2 < t
      · have HE := Lib.hid (Gr.right_yes (t := t) (n := n) (x := (x1, x2)) (by simp only []; have := HK.out; omega))
        go_enter Try.func114, Try.ntmps114
        go_wp2
        go_ret
        exact ⟨by rw [HE.out]; rfl, ((Below.refl _ _).alloc (Nat.le_refl _) _).alloc (by simp) _⟩
      · have HE := Lib.hid (Gr.right_no (t := t) (n := n) (x := (x1, x2)) (by simp only []; have := HK.out; omega))
        go_enter Try.func114, Try.ntmps114
        go_wp2
        go_ret
        exact ⟨by rw [HE.out]; rfl, ((Below.refl _ _).alloc (Nat.le_refl _) _).alloc (by simp) _⟩
    · have HE := Lib.hid (Gr.right_no (t := t) (n := n) (x := (x1, x2)) (by simp only []; have := HK.out; omega))
      go_enter Try.func114, Try.ntmps114
      go_wp2
      go_ret
      exact ⟨by rw [HE.out]; rfl, ((Below.refl _ _).alloc (Nat.le_refl _) _).alloc (by simp) _⟩
  by_cases k2 : x1 = 2
  · have e1 : ((x1 : Int) == 1) = false := by rw [beq_eq_false_iff_ne]; omega
    have e2 : ((x1 : Int) == 2) = true := by rw [beq_iff_eq]; omega
    have HK := Lib.hid k2; clear k2
    by_cases h0 : 0 ≤ x2
    · by_cases h1 : x2 < n
      · have HE := Lib.hid (Gr.right_yes (t := t) (n := n) (x := (x1, x2)) (by simp only []; have := HK.out; omega))
        go_enter Try.func114, Try.ntmps114
        go_wp2
        go_ret
        exact ⟨by rw [HE.out]; rfl, ((Below.refl _ _).alloc (Nat.le_refl _) _).alloc (by simp) _⟩
      · have HE := Lib.hid (Gr.right_no (t := t) (n := n) (x := (x1, x2)) (by simp only []; have := HK.out; omega))
        go_enter Try.func114, Try.ntmps114
        go_wp2
        go_ret
        exact ⟨by rw [HE.out]; rfl, ((Below.refl _ _).alloc (Nat.le_refl _) _).alloc (by simp) _⟩
    · have HE := Lib.hid (Gr.right_no (t := t) (n := n) (x := (x1, x2)) (by simp only []; have := HK.out; omega))
      go_enter Try.func114, Try.ntmps114
      go_wp2
      go_ret
      exact ⟨by rw [HE.out]; rfl, ((Below.refl _ _).alloc (Nat.le_refl _) _).alloc (by simp) _⟩
  · have e1 : ((x1 : Int) == 1) = false := by rw [beq_eq_false_iff_ne]; omega
    have e2 : ((x1 : Int) == 2) = false := by rw [beq_eq_false_iff_ne]; omega
    by_cases h0 : 0 ≤ x2
    · have HE := Lib.hid (Gr.right_no (t := t) (n := n) (x := (x1, x2)) (by simp only [];  omega))
      go_enter Try.func114, Try.ntmps114
      go_wp2
      go_ret
      exact ⟨by rw [HE.out]; rfl, ((Below.refl _ _).alloc (Nat.le_refl _) _).alloc (by simp) _⟩
    · have HE := Lib.hid (Gr.right_no (t := t) (n := n) (x := (x1, x2)) (by simp only [];  omega))
      go_enter Try.func114, Try.ntmps114
      go_wp2
      go_ret
      exact ⟨by rw [HE.out]; rfl, ((Below.refl _ _).alloc (Nat.le_refl _) _).alloc (by simp) _⟩

set_option maxRecDepth 100000 in
theorem rightSym_any (t n : Int) (vp : Value) (x1 x2 : Int) (w : World) :
    Calls Try.prog 30 #[.agg #[.int .i64 t, .int .i64 n, vp], .agg #[.int .i64 x1, .int .i64 x2]] w fun e w' => e = .returned (.bool (Gr.right t n (x1, x2))) ∧ Below w.heap.size w w' := by
  by_cases k1 : x1 = 1
  · have e1 : ((x1 : Int) == 1) = true := by rw [beq_iff_eq]; omega
    have e2 : ((x1 : Int) == 2) = false := by rw [beq_eq_false_iff_ne]; omega
    have HK := Lib.hid k1; clear k1
    by_cases h0 : 0 ≤ x2
    · by_cases h1 : x2 < t
      · have HE := Lib.hid (Gr.right_yes (t := t) (n := n) (x := (x1, x2)) (by simp only []; have := HK.out; omega))
        go_enter Try.func30, Try.ntmps30
        go_wp2
        go_ret
        exact ⟨by rw [HE.out]; rfl, ((Below.refl _ _).alloc (Nat.le_refl _) _).alloc (by simp) _⟩
      · have HE := Lib.hid (Gr.right_no (t := t) (n := n) (x := (x1, x2)) (by simp only []; have := HK.out; omega))
        go_enter Try.func30, Try.ntmps30
        go_wp2
        go_ret
        exact ⟨by rw [HE.out]; rfl, ((Below.refl _ _).alloc (Nat.le_refl _) _).alloc (by simp) _⟩
    · have HE := Lib.hid (Gr.right_no (t := t) (n := n) (x := (x1, x2)) (by simp only []; have := HK.out; omega))
      go_enter Try.func30, Try.ntmps30
      go_wp2
      go_ret
      exact ⟨by rw [HE.out]; rfl, ((Below.refl _ _).alloc (Nat.le_refl _) _).alloc (by simp) _⟩
  by_cases k2 : x1 = 2
  · have e1 : ((x1 : Int) == 1) = false := by rw [beq_eq_false_iff_ne]; omega
    have e2 : ((x1 : Int) == 2) = true := by rw [beq_iff_eq]; omega
    have HK := Lib.hid k2; clear k2
    by_cases h0 : 0 ≤ x2
    · by_cases h1 : x2 < n
      · have HE := Lib.hid (Gr.right_yes (t := t) (n := n) (x := (x1, x2)) (by simp only []; have := HK.out; omega))
        go_enter Try.func30, Try.ntmps30
        go_wp2
        go_ret
        exact ⟨by rw [HE.out]; rfl, ((Below.refl _ _).alloc (Nat.le_refl _) _).alloc (by simp) _⟩
      · have HE := Lib.hid (Gr.right_no (t := t) (n := n) (x := (x1, x2)) (by simp only []; have := HK.out; omega))
        go_enter Try.func30, Try.ntmps30
        go_wp2
        go_ret
        exact ⟨by rw [HE.out]; rfl, ((Below.refl _ _).alloc (Nat.le_refl _) _).alloc (by simp) _⟩
    · have HE := Lib.hid (Gr.right_no (t := t) (n := n) (x := (x1, x2)) (by simp only []; have := HK.out; omega))
      go_enter Try.func30, Try.ntmps30
      go_wp2
      go_ret
      exact ⟨by rw [HE.out]; rfl, ((Below.refl _ _).alloc (Nat.le_refl _) _).alloc (by simp) _⟩
  · have e1 : ((x1 : Int) == 1) = false := by rw [beq_eq_false_iff_ne]; omega
    have e2 : ((x1 : Int) == 2) = false := by rw [beq_eq_false_iff_ne]; omega
    by_cases h0 : 0 ≤ x2
    · have HE := Lib.hid (Gr.right_no (t := t) (n := n) (x := (x1, x2)) (by simp only [];  omega))
      go_enter Try.func30, Try.ntmps30
      go_wp2
      go_ret
      exact ⟨by rw [HE.out]; rfl, ((Below.refl _ _).alloc (Nat.le_refl _) _).alloc (by simp) _⟩
    · have HE := Lib.hid (Gr.right_no (t := t) (n := n) (x := (x1, x2)) (by simp only [];  omega))
      go_enter Try.func30, Try.ntmps30
      go_wp2
      go_ret
      exact ⟨by rw [HE.out]; rfl, ((Below.refl _ _).alloc (Nat.le_refl _) _).alloc (by simp) _⟩

/-- The grammar's box. -/
def GrBox (w : World) (G : Nat) (t n : Int) (vp : Value) : Prop := w.cell? ⟨G, 0, none⟩ = some (.int .i64 t) ∧ w.cell? ⟨G, 1, none⟩ = some (.int .i64 n) ∧ w.cell? ⟨G, 2, none⟩ = some vp
theorem GrBox.below {w w' : World} {G : Nat} {t n : Int} {vp : Value} {B : Nat} (h : GrBox w G t n vp) (hb : Below B w w') (hG : G < B) : GrBox w' G t n vp :=
  ⟨(hb.cell (p := ⟨G, 0, none⟩) hG).trans h.1, (hb.cell (p := ⟨G, 1, none⟩) hG).trans h.2.1, (hb.cell (p := ⟨G, 2, none⟩) hG).trans h.2.2⟩
theorem GrBox.lt {w : World} {G : Nat} {t n : Int} {vp : Value} (h : GrBox w G t n vp) : G < w.heap.size := World.block_lt_of_cell? w _ h.1

set_option maxRecDepth 100000 in
theorem badSym_any (t n : Int) (vp : Value) (G : Nat) (x : Int × Int) (w : World) (hG : GrBox w G t n vp) :
    Calls Try.prog 113 #[.agg #[.int .i64 x.1, .int .i64 x.2], .pointer (some ⟨G, 0, none⟩)] w fun e w' => e = .returned (.bool (!Gr.right t n x)) ∧ Below w.heap.size w w' := by
  obtain ⟨x1, x2⟩ := x
  have hlt := hG.lt
  obtain ⟨g0, g1, g2⟩ := hG
  go_enter Try.func113, Try.ntmps113
  go_wp2_with (go_at_call 114; refine (right_any t n vp x1 x2 _).mono ?_; rintro e w1 ⟨rfl, hb1⟩)
  go_ret
  exact ⟨rfl, ((Below.refl _ _).alloc (Nat.le_refl _) _).trans (hb1.mono (by simp))⟩

theorem any_none' {α : Type} {p : α → Bool} {l : List α} {d : α} (h : ∀ j, j < l.length → p (l.getD j d) = false) : l.any p = false := by
  rw [List.any_eq_false]
  intro x hx
  obtain ⟨j, hj, rfl⟩ := List.getElem_of_mem hx
  have := h j hj
  rw [List.getD, List.getElem?_eq_getElem hj] at this
  simpa using this
theorem any_some' {α : Type} {p : α → Bool} {l : List α} {d : α} {k : Nat} (hk : k < l.length) (h : p (l.getD k d) = true) : l.any p = true :=
  List.any_eq_true.2 ⟨l.getD k d, by simp [List.getD, List.getElem?_eq_getElem hk], h⟩

set_option maxRecDepth 100000 in
theorem badSymIndex_any (t n : Int) (vp : Value) (G : Nat) (l : List (Int × Int)) (v : Value) (w : World) (F : Nat → Prop) (h : (Enc.two.sl 16).R F w [v] l) (hG : GrBox w G t n vp) :
    Calls Try.prog 129 #[v, .func (.func 113) #[] #[.pointer (some ⟨G, 0, none⟩)]] w fun e w' => (∃ r : Int, e = .returned (.int .i64 r) ∧ decide (0 ≤ r) = l.any (fun x => !Gr.right t n x)) ∧ Below w.heap.size w w' := by
  obtain ⟨ao, b, off, cap, rfl, hl, n3, n4⟩ := slTwo h
  clear h
  have hl2 : (l.length : Int) ≤ 140737488355328 := by omega
  have N3 := Lib.hid n3; have N4 := Lib.hid n4; have HG := Lib.hid hG
  have hGl := hG.lt
  clear n3 n4 hl hG
  go_enter Try.func129, Try.ntmps129
  go_wp2
  go_loopw [5, 8] (fun _ i wr => ∃ k : Nat, k ≤ l.length ∧ i = .int .i64 k ∧ Below w.heap.size w wr ∧ Hid (∀ j, j < k → (!Gr.right t n (l.getD j (0, 0))) = false)) (fun _ i _ => l.length - (intOf i).toNat)
  case atStart => exact ⟨0, by omega, rfl, Below.refl _ _, Lib.hid (fun j hj => absurd hj (by omega))⟩
  case round =>
    obtain ⟨k, hk, rfl, hB, hq⟩ := hrel
    by_cases hlt : k < l.length
    · obtain ⟨rfl, _, _⟩ := N3.out (by omega)
      have hc1 := bkeep hB (N4.out k hlt).1
      have hc2 := bkeep hB (N4.out k hlt).2.1
      obtain ⟨x, hx⟩ : ∃ x, x = l.getD k (0, 0) := ⟨_, rfl⟩
      rw [← hx] at hc1 hc2
      have HXE := Lib.hid hx; clear hx
      have HGB := HG.out.below hB hGl
      have HGH := Lib.hid HGB; clear HGB
      cases hbk : Gr.right t n x
      · have HBK := Lib.hid hbk; clear hbk
        go_wp2_with (go_at_call 113; refine (badSym_any t n vp G x _ HGH.out).mono ?_; rintro e w9 ⟨rfl, hb9⟩; rw [HBK.out])
        go_ret
        exact ⟨⟨k, rfl, by rw [any_some' (d := (0, 0)) hlt (by rw [← HXE.out, HBK.out]; rfl)]; simp⟩, hB.trans (hb9.mono hB.size)⟩
      · have HBK := Lib.hid hbk; clear hbk
        go_wp2_with (go_at_call 113; refine (badSym_any t n vp G x _ HGH.out).mono ?_; rintro e w9 ⟨rfl, hb9⟩; rw [HBK.out])
        go_roundw
        case rel =>
          refine ⟨k + 1, by omega, by go_num, hB.trans (hb9.mono hB.size), Lib.hid (fun j hj => ?_)⟩
          rcases Nat.lt_succ_iff_lt_or_eq.1 hj with hj | rfl
          · exact hq.out j hj
          · rw [← HXE.out, HBK.out]; rfl
        case measure => simp [intOf]; omega
    · obtain rfl : k = l.length := by omega
      go_wp2
      go_ret
      exact ⟨⟨-1, rfl, by rw [any_none' (d := (0, 0)) hq.out]; rfl⟩, hB⟩

set_option maxRecDepth 100000 in
theorem badSymIn_any (t n : Int) (vp : Value) (G : Nat) (l : List (Int × Int)) (v : Value) (w : World) (F : Nat → Prop) (h : (Enc.two.sl 16).R F w [v] l) (hG : GrBox w G t n vp) :
    Calls Try.prog 112 #[v, .func (.func 113) #[] #[.pointer (some ⟨G, 0, none⟩)]] w fun e w' => e = .returned (.bool (l.any (fun x => !Gr.right t n x))) ∧ Below w.heap.size w w' := by
  go_enter Try.func112, Try.ntmps112
  go_wp2_with (go_at_call 129; refine (badSymIndex_any t n vp G l v _ F h hG).mono ?_; rintro e w9 ⟨⟨r, rfl, hr⟩, hb9⟩)
  go_ret
  exact ⟨by rw [← hr]; simp, hb9⟩
end Go.Proofs.Ytkhjncbjdldpbaa

/-
  What a grammar's words begin with, as plain data: truths and sets of nonterminals, each the least that its rules ask; two that are least are the same. (Plain functions; nothing of the program is claimed.)
-/
namespace Go.Proofs.Ytkhjncbjdldpbaa
set_option linter.unusedVariables false

namespace Fc
abbrev Pr := Int × List (Int × Int)
/-- All of a body's nonterminals are so (and its terminals, if they may be). -/
def all (E : List Bool) (terms : Bool) : List (Int × Int) → Bool
  | [] => true
  | x :: r => if (x.1 = 1 ∧ terms = false) ∨ (x.1 = 2 ∧ E.getD x.2.toNat false = false) then false else all E terms r
def le (X Y : List Bool) : Prop := ∀ i, X.getD i false = true → Y.getD i false = true
theorem le_refl (X : List Bool) : le X X := fun _ h => h
theorem le_trans {X Y Z : List Bool} (h : le X Y) (h2 : le Y Z) : le X Z := fun i hi => h2 i (h i hi)
theorem le_anti {X Y : List Bool} (hl : X.length = Y.length) (h : le X Y) (h2 : le Y X) : X = Y := by
  apply List.ext_getElem hl
  intro i h3 h4
  have e1 : X.getD i false = X[i] := by simp [List.getD, List.getElem?_eq_getElem h3]
  have e2 : Y.getD i false = Y[i] := by simp [List.getD, List.getElem?_eq_getElem h4]
  have a := h i; have b := h2 i
  rw [e1, e2] at a b
  cases hx : X[i] <;> cases hy : Y[i] <;> simp_all
theorem all_mono {X Y : List Bool} (h : le X Y) {terms : Bool} {b : List (Int × Int)} (ha : all X terms b = true) : all Y terms b = true := by
  induction b with
  | nil => rfl
  | cons x r ih =>
    rw [all] at ha ⊢
    split at ha
    · cases ha
    · rename_i hn
      rw [if_neg]
      · exact ih ha
      · rintro (h1 | ⟨h1, h2⟩)
        · exact hn (.inl h1)
        · refine hn (.inr ⟨h1, ?_⟩)
          cases hx : X.getD x.2.toNat false
          · rfl
          · rw [h _ hx] at h2; cases h2
def set1 (X : List Bool) (i : Nat) (b : Bool) : List Bool := if b = true then X.set i true else X
theorem set1_len {X i b} : (set1 X i b).length = X.length := by unfold set1; split <;> simp
theorem set1_get {X : List Bool} {i : Nat} {b : Bool} (j : Nat) (hi : i < X.length) : (set1 X i b).getD j false = (X.getD j false || (b && decide (i = j))) := by
  unfold set1
  cases b
  · simp
  · rw [if_pos rfl]
    by_cases h : i = j
    · subst h; simp [List.getD, hi]
    · simp [List.getD, List.getElem?_set_ne h, h]
theorem set1_ge {X : List Bool} {i : Nat} {b : Bool} : le X (set1 X i b) := by
  intro j hj
  unfold set1
  split
  · by_cases h : i = j
    · subst h
      have : i < X.length := by
        apply Classical.byContradiction; intro hn
        rw [List.getD_eq_getElem?_getD, List.getElem?_eq_none (by omega)] at hj; cases hj
      simp [List.getD, this]
    · rw [List.getD_eq_getElem?_getD, List.getElem?_set_ne h, ← List.getD_eq_getElem?_getD]; exact hj
  · exact hj
theorem set1_le {X Y : List Bool} {i : Nat} {b : Bool} (h : le X Y) (hb : b = true → Y.getD i false = true) : le (set1 X i b) Y := by
  intro j hj
  unfold set1 at hj
  split at hj
  · rename_i hbt
    by_cases h2 : i = j
    · subst h2; exact hb hbt
    · rw [List.getD_eq_getElem?_getD, List.getElem?_set_ne h2, ← List.getD_eq_getElem?_getD] at hj
      exact h j hj
  · exact h j hj
/-- Nothing new: it stays. -/
theorem set1_same {X : List Bool} {i : Nat} {b : Bool} (hi : i < X.length) (h : b = true → X.getD i false = true) : set1 X i b = X := by
  unfold set1
  split
  · rename_i hb
    have h2 := h hb
    apply List.ext_getElem (by simp)
    intro j h3 h4
    by_cases h5 : i = j
    · subst h5
      have e1 : X.getD i false = X[i] := by simp [List.getD, List.getElem?_eq_getElem h4]
      rw [e1] at h2
      simp [h2]
    · simp [List.getElem_set_ne h5]
  · rfl

/-! Empty (terms = false), Makes (terms = true). -/
def clA (l : List Pr) (terms : Bool) (Y : List Bool) : Prop := ∀ p ∈ l, all Y terms p.2 = true → Y.getD p.1.toNat false = true
def LA (l : List Pr) (n : Nat) (terms : Bool) (X : List Bool) : Prop := X.length = n ∧ clA l terms X ∧ ∀ Y, clA l terms Y → le X Y
theorem LA_one {l : List Pr} {n : Nat} {terms : Bool} {X Y : List Bool} (h : LA l n terms X) (h2 : LA l n terms Y) : X = Y :=
  le_anti (by rw [h.1, h2.1]) (h.2.2 Y h2.2.1) (h2.2.2 X h.2.1)
/-! Reach. -/
def clR (l : List Pr) (Y : List Bool) : Prop := Y.getD 0 false = true ∧ ∀ p ∈ l, Y.getD p.1.toNat false = true → ∀ x ∈ p.2, x.1 = 2 → Y.getD x.2.toNat false = true
def LR (l : List Pr) (n : Nat) (X : List Bool) : Prop := X.length = n ∧ clR l X ∧ ∀ Y, clR l Y → le X Y
theorem LR_one {l : List Pr} {n : Nat} {X Y : List Bool} (h : LR l n X) (h2 : LR l n Y) : X = Y :=
  le_anti (by rw [h.1, h2.1]) (h.2.2 Y h2.2.1) (h2.2.2 X h.2.1)

/-! First. -/
/-- What some symbols begin with, something being behind. -/
def beg (E : List Bool) (F : List Nat) (behind : Nat) : List (Int × Int) → Nat
  | [] => behind
  | x :: r => if x.1 = 1 then 2 ^ x.2.toNat else if E.getD x.2.toNat false = true then F.getD x.2.toNat 0 ||| beg E F behind r else F.getD x.2.toNat 0
/-- Do they begin with t? -/
def begB (E : List Bool) (S : Nat → Bool) (t : Nat) : List (Int × Int) → Bool
  | [] => false
  | x :: r => if x.1 = 1 then decide (x.2.toNat = t) else if S x.2.toNat = true then true else if E.getD x.2.toNat false = true then begB E S t r else false
theorem beg_bit {E : List Bool} {F : List Nat} {t : Nat} {b : List (Int × Int)} : (beg E F 0 b).testBit t = begB E (fun i => (F.getD i 0).testBit t) t b := by
  induction b with
  | nil => simp [beg, begB]
  | cons x r ih =>
    rw [beg, begB]
    split
    · rw [Nat.testBit_two_pow]
    · split
      · rw [Nat.testBit_or, ih]
        cases h : (F.getD x.2.toNat 0).testBit t <;> simp
      · cases h : (F.getD x.2.toNat 0).testBit t <;> simp
theorem begB_mono {E : List Bool} {S S' : Nat → Bool} {t : Nat} (h : ∀ i, S i = true → S' i = true) {b : List (Int × Int)} (hb : begB E S t b = true) : begB E S' t b = true := by
  induction b with
  | nil => cases hb
  | cons x r ih =>
    rw [begB] at hb ⊢
    split at hb
    · rename_i h1; rw [if_pos h1]; exact hb
    · rename_i h1
      rw [if_neg h1]
      split at hb
      · rename_i h2; rw [if_pos (h _ h2)]
      · split at hb
        · rename_i h2 h3
          split
          · rfl
          · exact ih hb
        · cases hb
def clF (l : List Pr) (E M : List Bool) (t : Nat) (S : Nat → Bool) : Prop := ∀ p ∈ l, all M true p.2 = true → begB E S t p.2 = true → S p.1.toNat = true
def LF (l : List Pr) (n : Nat) (E M : List Bool) (F : List Nat) : Prop := F.length = n ∧ ∀ t, clF l E M t (fun i => (F.getD i 0).testBit t) ∧ ∀ S, clF l E M t S → ∀ i, (F.getD i 0).testBit t = true → S i = true
theorem LF_one {l : List Pr} {n : Nat} {E M : List Bool} {F G : List Nat} (h : LF l n E M F) (h2 : LF l n E M G) : F = G := by
  apply List.ext_getElem (by rw [h.1, h2.1])
  intro i h3 h4
  have e1 : F.getD i 0 = F[i] := by simp [List.getD, List.getElem?_eq_getElem h3]
  have e2 : G.getD i 0 = G[i] := by simp [List.getD, List.getElem?_eq_getElem h4]
  apply Nat.eq_of_testBit_eq
  intro t
  have a := (h.2 t).2 _ (h2.2 t).1 i
  have b := (h2.2 t).2 _ (h.2 t).1 i
  simp only [e1, e2] at a b
  cases hx : F[i].testBit t <;> cases hy : G[i].testBit t <;> simp_all

/-! Follow: the same rounds in both texts. -/
/-- One production's symbols: what comes behind each of its nonterminals. -/
def folB (E : List Bool) (F : List Nat) (h : Nat) : List (Int × Int) → List Nat → List Nat
  | [], W => W
  | x :: r, W => folB E F h r (if x.1 = 2 then W.set x.2.toNat (W.getD x.2.toNat 0 ||| beg E F (W.getD h 0) r) else W)
def fol (E : List Bool) (F : List Nat) (l : List Pr) (W : List Nat) : List Nat := l.foldl (fun W p => folB E F p.1.toNat p.2 W) W
def iter (f : List Nat → List Nat) : Nat → List Nat → List Nat
  | 0, W => W
  | k + 1, W => iter f k (f W)
theorem iter_fix {f : List Nat → List Nat} {W : List Nat} (h : f W = W) (k : Nat) : iter f k W = W := by
  induction k with
  | zero => rfl
  | succ k ih => rw [iter, h, ih]
theorem iter_add {f : List Nat → List Nat} (a b : Nat) : ∀ W, iter f (a + b) W = iter f b (iter f a W) := by
  induction a with
  | zero => intro W; rw [Nat.zero_add]; rfl
  | succ a ih => intro W; rw [show a + 1 + b = (a + b) + 1 by omega, iter, iter, ih]
def LW (f : List Nat → List Nat) (W0 W : List Nat) : Prop := (∃ k, W = iter f k W0) ∧ f W = W
theorem LW_one {f : List Nat → List Nat} {W0 W V : List Nat} (h : LW f W0 W) (h2 : LW f W0 V) : W = V := by
  obtain ⟨⟨a, ha⟩, hf⟩ := h
  obtain ⟨⟨b, hb⟩, hg⟩ := h2
  rcases Nat.le_total a b with hab | hab
  · obtain ⟨d, rfl⟩ : ∃ d, b = a + d := ⟨b - a, by omega⟩
    rw [hb, iter_add, ← ha, iter_fix hf]
  · obtain ⟨d, rfl⟩ : ∃ d, a = b + d := ⟨a - b, by omega⟩
    rw [ha, iter_add, ← hb, iter_fix hg]
/-- All the facts of a grammar. -/
structure Spec (l : List Pr) (n : Nat) (E : List Bool) (F W : List Nat) (R M : List Bool) : Prop where
  e : LA l n false E
  m : LA l n true M
  r : LR l n R
  f : LF l n E M F
  w : LW (fol E F l) ((List.replicate n 0).set 0 9223372036854775808) W
theorem Spec.one {l : List Pr} {n : Nat} {E E' : List Bool} {F F' W W' : List Nat} {R R' M M' : List Bool} (h : Spec l n E F W R M) (h2 : Spec l n E' F' W' R' M') : E = E' ∧ F = F' ∧ W = W' ∧ R = R' ∧ M = M' := by
  have e1 := LA_one h.e h2.e
  have e2 := LA_one h.m h2.m
  have e3 := LR_one h.r h2.r
  subst e1 e2
  have e4 := LF_one h.f h2.f
  subst e4
  exact ⟨rfl, rfl, LW_one h.w h2.w, e3, rfl⟩
end Fc
end Go.Proofs.Ytkhjncbjdldpbaa

/-
  The rounds that find the least facts: each raises what there is, none beyond what is least; one that changes nothing has found all. (Plain functions; nothing of the program is claimed.)
-/
namespace Go.Proofs.Ytkhjncbjdldpbaa
set_option linter.unusedVariables false

namespace Fc
def cnt (X : List Bool) : Nat := (X.filter id).length
theorem cnt_le (X : List Bool) : cnt X ≤ X.length := by unfold cnt; exact List.length_filter_le _ _
theorem cnt_set {X : List Bool} {i : Nat} (hi : i < X.length) (h : X.getD i false = false) : cnt (X.set i true) = cnt X + 1 := by
  induction X generalizing i with
  | nil => simp at hi
  | cons a r ih =>
    cases i with
    | zero =>
      have : a = false := by simpa [List.getD] using h
      subst this
      simp [cnt]
    | succ i =>
      have hi' : i < r.length := by simpa using hi
      have h' : r.getD i false = false := by simpa [List.getD] using h
      have := ih hi' h'
      unfold cnt at *
      simp only [List.set_cons_succ, List.filter_cons]
      cases a <;> simp <;> omega
/-- Something new: one more. -/
theorem cnt_set1 {X : List Bool} {i : Nat} {b : Bool} (hi : i < X.length) : cnt (set1 X i b) = cnt X + (if (b && !X.getD i false) = true then 1 else 0) := by
  cases b
  · simp [set1]
  · cases h : X.getD i false
    · rw [show set1 X i true = X.set i true by simp [set1], cnt_set hi h]; rfl
    · rw [set1_same hi (fun _ => h)]; simp
theorem set1_eq_iff {X : List Bool} {i : Nat} {b : Bool} (hi : i < X.length) (h : set1 X i b = X) : b = true → X.getD i false = true := by
  intro hb
  have := cnt_set1 (b := b) hi
  rw [h] at this
  cases hx : X.getD i false
  · rw [hb, hx] at this; simp at this
  · rfl

/-! A round over the productions, by one rule for heads. -/
def rdA (terms : Bool) (l : List Pr) (X : List Bool) : List Bool := l.foldl (fun X p => set1 X p.1.toNat (all X terms p.2)) X
theorem rdA_cons {terms : Bool} {p : Pr} {l : List Pr} {X : List Bool} : rdA terms (p :: l) X = rdA terms l (set1 X p.1.toNat (all X terms p.2)) := rfl
theorem rdA_len {terms : Bool} {l : List Pr} : ∀ {X : List Bool}, (rdA terms l X).length = X.length := by
  induction l with
  | nil => intro X; rfl
  | cons p l ih => intro X; rw [rdA_cons, ih, set1_len]
theorem rdA_ge {terms : Bool} {l : List Pr} : ∀ {X : List Bool}, le X (rdA terms l X) := by
  induction l with
  | nil => intro X; exact le_refl X
  | cons p l ih => intro X; rw [rdA_cons]; exact le_trans set1_ge ih
theorem rdA_le {terms : Bool} {l l' : List Pr} {Y : List Bool} (hY : clA l' terms Y) : ∀ {X : List Bool}, (∀ p ∈ l, p ∈ l') → le X Y → le (rdA terms l X) Y := by
  induction l with
  | nil => intro X _ h; exact h
  | cons p l ih =>
    intro X hm h
    rw [rdA_cons]
    exact ih (fun q hq => hm q (.tail _ hq)) (set1_le h (fun hb => hY p (hm p (.head _)) (all_mono h hb)))
/-- A round that changes nothing: closed. -/
theorem rdA_cl {terms : Bool} {l : List Pr} : ∀ {X : List Bool}, (∀ p ∈ l, p.1.toNat < X.length) → rdA terms l X = X → clA l terms X := by
  induction l with
  | nil => intro X _ _ p hp; cases hp
  | cons p l ih =>
    intro X hl h
    rw [rdA_cons] at h
    have h1 : le (set1 X p.1.toNat (all X terms p.2)) X := by rw [← h]; rw [h]; have := rdA_ge (terms := terms) (l := l) (X := set1 X p.1.toNat (all X terms p.2)); rw [h] at this; exact this
    have h2 : set1 X p.1.toNat (all X terms p.2) = X := le_anti set1_len h1 set1_ge
    rw [h2] at h
    intro q hq
    rcases List.mem_cons.1 hq with rfl | hq
    · exact set1_eq_iff (hl _ (.head _)) h2
    · exact ih (fun z hz => hl z (.tail _ hz)) h q hq
theorem LA_of {l : List Pr} {n : Nat} {terms : Bool} {X : List Bool} (hl : X.length = n) (hb : ∀ p ∈ l, p.1.toNat < n) (hle : ∀ Y, clA l terms Y → le X Y) (h : rdA terms l X = X) : LA l n terms X :=
  ⟨hl, rdA_cl (by rw [hl]; exact hb) h, hle⟩

/-! Reach. -/
def rR (h : Nat) : List (Int × Int) → List Bool → List Bool
  | [], R => R
  | x :: r, R => rR h r (if x.1 = 2 then set1 R x.2.toNat (R.getD h false) else R)
def rdR (l : List Pr) (X : List Bool) : List Bool := l.foldl (fun X p => rR p.1.toNat p.2 X) X
theorem rdR_cons {p : Pr} {l : List Pr} {X : List Bool} : rdR (p :: l) X = rdR l (rR p.1.toNat p.2 X) := rfl
theorem rR_len {h : Nat} {b : List (Int × Int)} : ∀ {R : List Bool}, (rR h b R).length = R.length := by
  induction b with
  | nil => intro R; rfl
  | cons x r ih => intro R; rw [rR, ih]; split <;> simp [set1_len]
theorem rR_ge {h : Nat} {b : List (Int × Int)} : ∀ {R : List Bool}, le R (rR h b R) := by
  induction b with
  | nil => intro R; exact le_refl R
  | cons x r ih =>
    intro R
    rw [rR]
    split
    · exact le_trans set1_ge ih
    · exact ih
theorem rR_le {h : Nat} {b : List (Int × Int)} {Y : List Bool} : ∀ {R : List Bool}, (Y.getD h false = true → ∀ x ∈ b, x.1 = 2 → Y.getD x.2.toNat false = true) → le R Y → le (rR h b R) Y := by
  induction b with
  | nil => intro R _ h; exact h
  | cons x r ih =>
    intro R hY hle
    rw [rR]
    refine ih (fun g z hz => hY g z (.tail _ hz)) ?_
    split
    · rename_i hx
      exact set1_le hle (fun hb => hY (hle _ hb) x (.head _) hx)
    · exact hle
theorem rR_fix {h : Nat} {b : List (Int × Int)} : ∀ {R : List Bool}, (∀ x ∈ b, x.1 = 2 → x.2.toNat < R.length) → rR h b R = R → R.getD h false = true → ∀ x ∈ b, x.1 = 2 → R.getD x.2.toNat false = true := by
  induction b with
  | nil => intro R _ _ _ x hx; cases hx
  | cons y r ih =>
    intro R hl hf hh x hx hx2
    rw [rR] at hf
    obtain ⟨R', hR⟩ : ∃ R', (if y.1 = 2 then set1 R y.2.toNat (R.getD h false) else R) = R' := ⟨_, rfl⟩
    rw [hR] at hf
    have hge : le R R' := by rw [← hR]; split; exact set1_ge; exact le_refl R
    have hlen : R'.length = R.length := by rw [← hR]; split <;> simp [set1_len]
    have h1 : le R' R := by have := rR_ge (h := h) (b := r) (R := R'); rw [hf] at this; exact this
    have h2 : R' = R := le_anti hlen h1 hge
    rw [h2] at hf hR
    rcases List.mem_cons.1 hx with rfl | hx
    · rw [if_pos hx2] at hR
      exact set1_eq_iff (hl _ (.head _) hx2) hR hh
    · exact ih (fun z hz => hl z (.tail _ hz)) hf hh x hx hx2
theorem rdR_len {l : List Pr} : ∀ {X : List Bool}, (rdR l X).length = X.length := by
  induction l with
  | nil => intro X; rfl
  | cons p l ih => intro X; rw [rdR_cons, ih, rR_len]
theorem rdR_ge {l : List Pr} : ∀ {X : List Bool}, le X (rdR l X) := by
  induction l with
  | nil => intro X; exact le_refl X
  | cons p l ih => intro X; rw [rdR_cons]; exact le_trans rR_ge ih
theorem rdR_le {l l' : List Pr} {Y : List Bool} (hY : clR l' Y) : ∀ {X : List Bool}, (∀ p ∈ l, p ∈ l') → le X Y → le (rdR l X) Y := by
  induction l with
  | nil => intro X _ h; exact h
  | cons p l ih =>
    intro X hm h
    rw [rdR_cons]
    exact ih (fun q hq => hm q (.tail _ hq)) (rR_le (fun g x hx hx2 => hY.2 p (hm p (.head _)) g x hx hx2) h)
theorem rdR_cl {l : List Pr} : ∀ {X : List Bool}, (∀ p ∈ l, ∀ x ∈ p.2, x.1 = 2 → x.2.toNat < X.length) → rdR l X = X → ∀ p ∈ l, X.getD p.1.toNat false = true → ∀ x ∈ p.2, x.1 = 2 → X.getD x.2.toNat false = true := by
  induction l with
  | nil => intro X _ _ p hp; cases hp
  | cons p l ih =>
    intro X hl h
    rw [rdR_cons] at h
    have h1 : le (rR p.1.toNat p.2 X) X := by have := rdR_ge (l := l) (X := rR p.1.toNat p.2 X); rw [h] at this; exact this
    have h2 : rR p.1.toNat p.2 X = X := le_anti rR_len h1 rR_ge
    rw [h2] at h
    intro q hq
    rcases List.mem_cons.1 hq with rfl | hq
    · exact fun g => rR_fix (hl _ (.head _)) h2 g
    · exact ih (fun z hz => hl z (.tail _ hz)) h q hq
theorem LR_of {l : List Pr} {n : Nat} {X : List Bool} (hl : X.length = n) (h0 : X.getD 0 false = true) (hb : ∀ p ∈ l, ∀ x ∈ p.2, x.1 = 2 → x.2.toNat < n) (hle : ∀ Y, clR l Y → le X Y) (h : rdR l X = X) : LR l n X :=
  ⟨hl, ⟨h0, rdR_cl (by rw [hl]; exact hb) h⟩, hle⟩
end Fc
end Go.Proofs.Ytkhjncbjdldpbaa

/-
  Rounds over sets of columns, as numbers: First. (Plain functions; nothing of the program is claimed.)
-/
namespace Go.Proofs.Ytkhjncbjdldpbaa
set_option linter.unusedVariables false

namespace Fc
def up (W : List Nat) (i : Nat) (b : Nat) : List Nat := W.set i (W.getD i 0 ||| b)
theorem up_len {W i b} : (up W i b).length = W.length := by simp [up]
theorem up_get {W : List Nat} {i b : Nat} (j : Nat) (hi : i < W.length) : (up W i b).getD j 0 = if i = j then W.getD i 0 ||| b else W.getD j 0 := by
  unfold up
  by_cases h : i = j
  · subst h; rw [if_pos rfl]; simp [List.getD, hi]
  · rw [if_neg h, List.getD_eq_getElem?_getD, List.getElem?_set_ne h, ← List.getD_eq_getElem?_getD]
def leN (F G : List Nat) : Prop := ∀ i t, (F.getD i 0).testBit t = true → (G.getD i 0).testBit t = true
theorem leN_refl (F : List Nat) : leN F F := fun _ _ h => h
theorem leN_trans {F G H : List Nat} (h : leN F G) (h2 : leN G H) : leN F H := fun i t g => h2 i t (h i t g)
theorem leN_anti {F G : List Nat} (hl : F.length = G.length) (h : leN F G) (h2 : leN G F) : F = G := by
  apply List.ext_getElem hl
  intro i h3 h4
  have e1 : F.getD i 0 = F[i] := by simp [List.getD, List.getElem?_eq_getElem h3]
  have e2 : G.getD i 0 = G[i] := by simp [List.getD, List.getElem?_eq_getElem h4]
  apply Nat.eq_of_testBit_eq
  intro t
  have a := h i t; have b := h2 i t
  rw [e1, e2] at a b
  cases hx : F[i].testBit t <;> cases hy : G[i].testBit t <;> simp_all
theorem up_ge {W : List Nat} {i b : Nat} : leN W (up W i b) := by
  intro j t h
  by_cases hi : i < W.length
  · rw [up_get j hi]
    split
    · rename_i e; subst e; rw [Nat.testBit_or, h]; rfl
    · exact h
  · have : up W i b = W := by unfold up; exact List.set_eq_of_length_le (by omega)
    rw [this]; exact h
theorem up_same {W : List Nat} {i b : Nat} (hi : i < W.length) (h : up W i b = W) : W.getD i 0 ||| b = W.getD i 0 := by
  have := up_get (b := b) i hi
  rw [h, if_pos rfl] at this
  exact this.symm
/-- How much may still come. -/
def room (K : Nat) (W : List Nat) : Nat := (W.map (fun x => K - x)).sum
theorem room_set {K : Nat} {W : List Nat} {i v : Nat} (hi : i < W.length) : room K (W.set i v) + (K - W.getD i 0) = room K W + (K - v) := by
  induction W generalizing i with
  | nil => simp at hi
  | cons a r ih =>
    cases i with
    | zero => simp [room, List.getD]; omega
    | succ i =>
      have hi' : i < r.length := by simpa using hi
      have := ih hi'
      unfold room at *
      simp only [List.set_cons_succ, List.map_cons, List.sum_cons]
      have e : (a :: r).getD (i + 1) 0 = r.getD i 0 := by simp [List.getD]
      rw [e]; omega
theorem room_up {K : Nat} {W : List Nat} {i b : Nat} (hi : i < W.length) (hK : W.getD i 0 ||| b < K) : room K (up W i b) ≤ room K W ∧ (W.getD i 0 ||| b ≠ W.getD i 0 → room K (up W i b) < room K W) := by
  have h := room_set (K := K) (v := W.getD i 0 ||| b) hi
  have h2 : W.getD i 0 ≤ W.getD i 0 ||| b := Nat.left_le_or
  unfold up
  exact ⟨by omega, fun hne => by omega⟩

/-! First. -/
def rdF (E M : List Bool) (l : List Pr) (F : List Nat) : List Nat := l.foldl (fun F p => if all M true p.2 = true then up F p.1.toNat (beg E F 0 p.2) else F) F
theorem rdF_cons {E M : List Bool} {p : Pr} {l : List Pr} {F : List Nat} : rdF E M (p :: l) F = rdF E M l (if all M true p.2 = true then up F p.1.toNat (beg E F 0 p.2) else F) := rfl
theorem stF_len {E M : List Bool} {p : Pr} {F : List Nat} : (if all M true p.2 = true then up F p.1.toNat (beg E F 0 p.2) else F).length = F.length := by split <;> simp [up_len]
theorem stF_ge {E M : List Bool} {p : Pr} {F : List Nat} : leN F (if all M true p.2 = true then up F p.1.toNat (beg E F 0 p.2) else F) := by
  split
  · exact up_ge
  · exact leN_refl F
theorem rdF_len {E M : List Bool} {l : List Pr} : ∀ {F : List Nat}, (rdF E M l F).length = F.length := by
  induction l with
  | nil => intro F; rfl
  | cons p l ih => intro F; rw [rdF_cons, ih, stF_len]
theorem rdF_ge {E M : List Bool} {l : List Pr} : ∀ {F : List Nat}, leN F (rdF E M l F) := by
  induction l with
  | nil => intro F; exact leN_refl F
  | cons p l ih => intro F; rw [rdF_cons]; exact leN_trans stF_ge ih
theorem rdF_le {E M : List Bool} {l l' : List Pr} {t : Nat} {S : Nat → Bool} (hS : clF l' E M t S) : ∀ {F : List Nat}, (∀ p ∈ l, p ∈ l') → (∀ p ∈ l, p.1.toNat < F.length) → (∀ i, (F.getD i 0).testBit t = true → S i = true) → ∀ i, ((rdF E M l F).getD i 0).testBit t = true → S i = true := by
  induction l with
  | nil => intro F _ _ h; exact h
  | cons p l ih =>
    intro F hm hl h
    rw [rdF_cons]
    refine ih (fun q hq => hm q (.tail _ hq)) (fun q hq => by rw [stF_len]; exact hl q (.tail _ hq)) (fun i hi => ?_)
    split at hi
    · rename_i ha
      rw [up_get i (hl p (.head _))] at hi
      split at hi
      · rename_i e
        subst e
        rw [Nat.testBit_or, Bool.or_eq_true] at hi
        rcases hi with hi | hi
        · exact h _ hi
        · rw [beg_bit] at hi
          exact hS p (hm p (.head _)) ha (begB_mono h hi)
      · exact h i hi
    · exact h i hi
theorem rdF_cl {E M : List Bool} {l : List Pr} : ∀ {F : List Nat}, (∀ p ∈ l, p.1.toNat < F.length) → rdF E M l F = F → ∀ t, clF l E M t (fun i => (F.getD i 0).testBit t) := by
  induction l with
  | nil => intro F _ _ t p hp; cases hp
  | cons p l ih =>
    intro F hl h t
    rw [rdF_cons] at h
    have h1 := rdF_ge (E := E) (M := M) (l := l) (F := if all M true p.2 = true then up F p.1.toNat (beg E F 0 p.2) else F)
    rw [h] at h1
    have h2 := leN_anti stF_len h1 stF_ge
    rw [h2] at h
    intro q hq ha hb
    rcases List.mem_cons.1 hq with rfl | hq
    · rw [if_pos ha] at h2
      have h3 := up_same (hl _ (.head _)) h2
      show (F.getD q.1.toNat 0).testBit t = true
      rw [← h3, Nat.testBit_or, beg_bit, hb, Bool.or_true]
    · exact ih (fun z hz => hl z (.tail _ hz)) h t q hq ha hb
theorem LF_of {E M : List Bool} {l : List Pr} {n : Nat} {F : List Nat} (hl : F.length = n) (hb : ∀ p ∈ l, p.1.toNat < n) (hle : ∀ t S, clF l E M t S → ∀ i, (F.getD i 0).testBit t = true → S i = true) (h : rdF E M l F = F) : LF l n E M F :=
  ⟨hl, fun t => ⟨rdF_cl (by rw [hl]; exact hb) h t, hle t⟩⟩
/-- What is begun with is a set of terminals, and of what stands in the sets already. -/
theorem beg_lt {E : List Bool} {F : List Nat} {k b : Nat} {body : List (Int × Int)} (hF : ∀ i, F.getD i 0 < 2 ^ k) (hb : b < 2 ^ k) (hx : ∀ x ∈ body, x.1 = 1 → x.2.toNat < k) : beg E F b body < 2 ^ k := by
  induction body with
  | nil => exact hb
  | cons x r ih =>
    rw [beg]
    split
    · exact Nat.pow_lt_pow_right (by decide) (hx x (.head _) ‹_›)
    · split
      · exact Nat.or_lt_two_pow (hF _) (ih (fun z hz => hx z (.tail _ hz)))
      · exact hF _
end Fc
end Go.Proofs.Ytkhjncbjdldpbaa

/-
  mark, add, all of package facts: what they do to what their caller owns.
-/
namespace Go.Proofs.Ytkhjncbjdldpbaa
set_option linter.unusedVariables false
open Go.ChangeShapes Go.WideShapes Go.ChangeAt Go.RowKit

namespace Fc
/-- An own slice of truths, of numbers. -/
def aB (v : Value) (E : List Bool) : Asrt := aOwn 4 1 v (E.map Value.bool)
def uV (x : Nat) : Value := .int .u64 (x : Int)
def aU (v : Value) (W : List Nat) : Asrt := aOwn 130 1 v (W.map uV)
end Fc

set_option maxRecDepth 100000 in
theorem fcMark_any (w0 w : World) (g n cap : Nat) (E : List Bool) (i : Nat) (b : Bool) (μ : List Asrt) (hi : i < E.length) (hn : n = E.length) (hst : St w0 w (Fc.aB (.slice (some ⟨g, 0, none⟩) n cap) E :: μ)) :
    Calls Try.prog 118 #[.slice (some ⟨g, 0, none⟩) n cap, .int .i64 i, .bool b] w fun e w' => e = .returned (.bool (b && !E.getD i false)) ∧ St w0 w' (Fc.aB (.slice (some ⟨g, 0, none⟩) n cap) (Fc.set1 E i b) :: μ) := by
  unfold Fc.aB at hst ⊢
  have hc := hst.cellOwn (f := Value.bool) (fun _ => rfl) i hi false
  have hi2 : (i : Int) < n := by omega
  have h0 : (0 : Int) ≤ (i : Int) := by omega
  cases b
  · have HST := Lib.hid (show St w0 w (aOwn 4 1 (.slice (some ⟨g, 0, none⟩) n cap) ((Fc.set1 E i false).map Value.bool) :: μ) from by rw [show Fc.set1 E i false = E by simp [Fc.set1]]; exact hst)
    clear hst hn hi
    obtain ⟨c1, c2⟩ := hc
    go_enter Try.func118, Try.ntmps118
    go_wp2
    go_ret
    exact ⟨rfl, HST.out⟩
  · cases hv : E.getD i false
    · rw [hv] at hc
      have h2 := hst.setOwn (f := Value.bool) (fun _ => rfl) i true
      have HST := Lib.hid (show St w0 (w.setCell ⟨g, i, none⟩ (.bool true)) (aOwn 4 1 (.slice (some ⟨g, 0, none⟩) n cap) ((Fc.set1 E i true).map Value.bool) :: μ) from by rw [show Fc.set1 E i true = E.set i true by simp [Fc.set1]]; exact h2)
      clear hst hn hi h2 hv
      obtain ⟨c1, c2⟩ := hc
      go_enter Try.func118, Try.ntmps118
      go_wp2
      go_ret
      exact ⟨rfl, HST.out⟩
    · rw [hv] at hc
      have HST := Lib.hid (show St w0 w (aOwn 4 1 (.slice (some ⟨g, 0, none⟩) n cap) ((Fc.set1 E i true).map Value.bool) :: μ) from by rw [Fc.set1_same hi (fun _ => hv)]; exact hst)
      clear hst hn hi hv
      obtain ⟨c1, c2⟩ := hc
      go_enter Try.func118, Try.ntmps118
      go_wp2
      go_ret
      exact ⟨rfl, HST.out⟩

set_option maxRecDepth 100000 in
theorem fcAdd_any (w0 w : World) (g n cap : Nat) (W : List Nat) (i : Nat) (b : Nat) (μ : List Asrt) (hi : i < W.length) (hn : n = W.length) (hW : W.getD i 0 < 18446744073709551616) (hb : b < 18446744073709551616) (hst : St w0 w (Fc.aU (.slice (some ⟨g, 0, none⟩) n cap) W :: μ)) :
    Calls Try.prog 120 #[.slice (some ⟨g, 0, none⟩) n cap, .int .i64 i, .int .u64 (b : Int)] w fun e w' => e = .returned (.bool (decide (W.getD i 0 ||| b ≠ W.getD i 0))) ∧ St w0 w' (Fc.aU (.slice (some ⟨g, 0, none⟩) n cap) (Fc.up W i b) :: μ) := by
  unfold Fc.aU at hst ⊢
  obtain ⟨c1, c2⟩ := hst.cellOwn (f := Fc.uV) (fun _ => rfl) i hi 0
  have hi2 : (i : Int) < n := by omega
  have h0 : (0 : Int) ≤ (i : Int) := by omega
  have h2 := hst.setOwn (f := Fc.uV) (fun _ => rfl) i (W.getD i 0 ||| b)
  have HST := Lib.hid (show St w0 (w.setCell ⟨g, i, none⟩ (.int .u64 ((W.getD i 0 ||| b : Nat) : Int))) (aOwn 130 1 (.slice (some ⟨g, 0, none⟩) n cap) ((Fc.up W i b).map Fc.uV) :: μ) from h2)
  have hor := bits_or_u64_nat (W.getD i 0) b hW hb
  generalize W.getD i 0 = x at *
  replace c1 : w.cell? ⟨g, i, none⟩ = some (.int .u64 (x : Int)) := c1
  have HOR := Lib.hid hor
  have hne : (((x ||| b : Nat) : Int) != (x : Int)) = decide (x ||| b ≠ x) := by
    by_cases h : x ||| b = x
    · rw [h]; simp
    · rw [decide_eq_true h, bne_iff_ne]; omega
  have HNE := Lib.hid hne
  clear hst hn hi h2 hW hb hne
  go_enter Try.func120, Try.ntmps120
  go_wp2
  go_ret
  exact ⟨congrArg (fun b => Ending.returned (.bool b)) HNE.out, HST.out⟩

namespace Fc
theorem drop_at {α : Type} {l : List α} {k : Nat} (h : k < l.length) (d : α) : l.drop k = l.getD k d :: l.drop (k + 1) := by
  rw [List.drop_eq_getElem_cons h]; simp [List.getD, List.getElem?_eq_getElem h]
theorem all_no {E : List Bool} {terms : Bool} {x : Int × Int} {r : List (Int × Int)} (h : (x.1 = 1 ∧ terms = false) ∨ (x.1 = 2 ∧ E.getD x.2.toNat false = false)) : all E terms (x :: r) = false := by rw [all, if_pos h]
theorem all_go {E : List Bool} {terms : Bool} {x : Int × Int} {r : List (Int × Int)} (h : ¬ ((x.1 = 1 ∧ terms = false) ∨ (x.1 = 2 ∧ E.getD x.2.toNat false = false))) : all E terms (x :: r) = all E terms r := by rw [all, if_neg h]
end Fc

set_option maxRecDepth 100000 in
set_option maxHeartbeats 1600000 in
theorem fcAll_any (w0 w : World) (g n cap : Nat) (E : List Bool) (terms : Bool) (vb : Value) (body : List (Int × Int)) (μ : List Asrt) (F : Nat → Prop) (hn : n = E.length) (hb : (Enc.two.sl 16).R F w0 [vb] body) (hx : ∀ x ∈ body, (x.1 = 1 ∧ 0 ≤ x.2) ∨ (x.1 = 2 ∧ 0 ≤ x.2 ∧ x.2 < E.length)) (hst : St w0 w (Fc.aB (.slice (some ⟨g, 0, none⟩) n cap) E :: μ)) :
    Calls Try.prog 119 #[.slice (some ⟨g, 0, none⟩) n cap, vb, .bool terms] w fun e w' => e = .returned (.bool (Fc.all E terms body)) ∧ St w0 w' (Fc.aB (.slice (some ⟨g, 0, none⟩) n cap) E :: μ) := by
  unfold Fc.aB at hst ⊢
  obtain ⟨ab, bb, ob, cb, rfl, hl, b3, b4⟩ := slTwo hb
  have B3 := Lib.hid b3; have B4 := Lib.hid b4; have HX := Lib.hid hx; have HN := Lib.hid hn
  have hll : (body.length : Int) ≤ 140737488355328 := by omega
  obtain ⟨R, hR⟩ : ∃ R, Fc.all E terms body = R := ⟨_, rfl⟩
  rw [hR]
  have HR : Hid (Fc.all E terms (body.drop 0) = R) := Lib.hid hR
  have HST := Lib.hid hst
  clear hb b3 b4 hx hR hst hl hn
  go_enter Try.func119, Try.ntmps119
  go_wp2
  go_loopg [11] body.length (fun gk i wr => ∃ k : Nat, k ≤ body.length ∧ gk = body.length - k ∧ i = .int .i64 k ∧ St w0 wr (aOwn 4 1 (.slice (some ⟨g, 0, none⟩) n cap) (E.map Value.bool) :: μ) ∧ Hid (Fc.all E terms (body.drop k) = R))
  case atStart => exact ⟨0, by omega, by omega, rfl, HST.out, HR⟩
  case round =>
    clear HST HR
    obtain ⟨k, hk, hgk, rfl, hst, HR⟩ := hrel
    have HGK := Lib.hid hgk
    clear hgk
    by_cases hlt : k < body.length
    · obtain ⟨rfl, _, _⟩ := B3.out (by omega)
      obtain ⟨s1, s2, -, -⟩ := B4.out k hlt
      have hd := Fc.drop_at hlt (0, 0)
      have hxx := HX.out (body.getD k (0, 0)) (by rw [show body.getD k (0, 0) = body[k] by simp [List.getD, List.getElem?_eq_getElem hlt]]; exact List.getElem_mem hlt)
      have hr := HR.out
      rw [hd] at hr
      generalize body.getD k (0, 0) = x at *
      obtain ⟨x1, x2⟩ := x
      simp only at s1 s2 hxx
      have c1 := bkeep hst.bel s1
      have c2 := bkeep hst.bel s2
      have hlt2 : (k : Int) < body.length := by omega
      have HST := Lib.hid (hst.skip (.cells #[.int .i64 x1, .int .i64 x2] 61))
      rcases hxx with ⟨rfl, h0⟩ | ⟨rfl, h0, h1⟩
      · cases terms
        · rw [Fc.all_no (.inl ⟨rfl, rfl⟩)] at hr
          subst hr
          clear s1 s2 hd hst HR
          go_wp2
          go_ret
          exact ⟨rfl, HST.out⟩
        · rw [Fc.all_go (by simp)] at hr
          have HR2 := Lib.hid hr
          clear s1 s2 hd hst HR hr
          go_wp2
          go_roundg (body.length - (k + 1))
          case measure => have := HGK.out; omega
          case rel => exact ⟨k + 1, by omega, rfl, by go_num, HST.out, HR2⟩
      · obtain ⟨q, rfl⟩ := Int.eq_ofNat_of_zero_le h0
        have hq : q < E.length := by omega
        have e1 := (hst.cellOwn (f := Value.bool) (fun _ => rfl) q hq false).1
        have hqn : (q : Int) < n := by have := HN.out; omega
        have lb := World.block_lt_of_cell? _ _ c1
        have le := World.block_lt_of_cell? _ _ e1
        cases hv : E.getD q false
        · rw [hv] at e1
          rw [Fc.all_no (.inr ⟨rfl, by rw [Int.toNat_natCast]; exact hv⟩)] at hr
          subst hr
          clear s1 s2 hd hst HR hv hq
          go_wp2
          go_ret
          exact ⟨rfl, HST.out⟩
        · rw [hv] at e1
          rw [Fc.all_go (by rw [Int.toNat_natCast, hv]; simp)] at hr
          have HR2 := Lib.hid hr
          clear s1 s2 hd hst HR hr hv hq
          go_wp2
          go_roundg (body.length - (k + 1))
          case measure => have := HGK.out; omega
          case rel => exact ⟨k + 1, by omega, rfl, by go_num, HST.out, HR2⟩
    · obtain rfl : k = body.length := by omega
      have hr := HR.out
      rw [List.drop_length] at hr
      have hr2 : true = R := hr
      subst hr2
      have HST := Lib.hid hst
      clear hst HR hr
      go_wp2
      go_ret
      exact ⟨rfl, HST.out⟩
end Go.Proofs.Ytkhjncbjdldpbaa

/-
  begin of package facts: what some symbols begin with.
-/
namespace Go.Proofs.Ytkhjncbjdldpbaa
set_option linter.unusedVariables false
open Go.ChangeShapes Go.WideShapes Go.ChangeAt Go.RowKit

namespace Fc
section
variable {E : List Bool} {F : List Nat} {b o : Nat} {x : Int × Int} {r : List (Int × Int)}
theorem beg_term (h : x.1 = 1) : beg E F b (x :: r) = 2 ^ x.2.toNat := by rw [beg, if_pos h]
theorem beg_stop (h : ¬ x.1 = 1) (h2 : E.getD x.2.toNat false = false) : beg E F b (x :: r) = F.getD x.2.toNat 0 := by rw [beg, if_neg h, if_neg (by rw [h2]; simp)]
theorem beg_on (h : ¬ x.1 = 1) (h2 : E.getD x.2.toNat false = true) : beg E F b (x :: r) = F.getD x.2.toNat 0 ||| beg E F b r := by rw [beg, if_neg h, if_pos h2]
end
end Fc

set_option maxRecDepth 100000 in
set_option maxHeartbeats 1600000 in
theorem fcBegin_any (w0 w : World) (g n cap g2 n2 cap2 : Nat) (E : List Bool) (F : List Nat) (vW vR vM vb : Value) (behind : Nat) (body : List (Int × Int)) (μ : List Asrt) (Fb : Nat → Prop) (hn : n = E.length) (hn2 : n2 = F.length) (hEF : F.length = E.length) (hF : ∀ i, F.getD i 0 < 18446744073709551616) (hbh : behind < 18446744073709551616)
    (hb : (Enc.two.sl 16).R Fb w0 [vb] body) (hx : ∀ x ∈ body, (x.1 = 1 ∧ 0 ≤ x.2 ∧ x.2 < 64) ∨ (x.1 = 2 ∧ 0 ≤ x.2 ∧ x.2 < E.length)) (hst : St w0 w (Fc.aB (.slice (some ⟨g, 0, none⟩) n cap) E :: Fc.aU (.slice (some ⟨g2, 0, none⟩) n2 cap2) F :: μ)) :
    Calls Try.prog 121 #[.agg #[.slice (some ⟨g, 0, none⟩) n cap, .slice (some ⟨g2, 0, none⟩) n2 cap2, vW, vR, vM], vb, .int .u64 (behind : Int)] w fun e w' => e = .returned (.int .u64 ((Fc.beg E F behind body : Nat) : Int)) ∧ St w0 w' (Fc.aB (.slice (some ⟨g, 0, none⟩) n cap) E :: Fc.aU (.slice (some ⟨g2, 0, none⟩) n2 cap2) F :: μ) := by
  unfold Fc.aB Fc.aU at hst ⊢
  obtain ⟨ab, bb, ob, cb, rfl, hl, b3, b4⟩ := slTwo hb
  have B3 := Lib.hid b3; have B4 := Lib.hid b4; have HX := Lib.hid hx; have HN := Lib.hid hn; have HN2 := Lib.hid hn2; have HEF := Lib.hid hEF; have HF := Lib.hid hF
  have hll : (body.length : Int) ≤ 140737488355328 := by omega
  obtain ⟨R, hR⟩ : ∃ R, Fc.beg E F behind body = R := ⟨_, rfl⟩
  rw [hR]
  have HR : Hid (0 ||| Fc.beg E F behind (body.drop 0) = R) := Lib.hid (by rw [Nat.zero_or]; exact hR)
  have HBH := Lib.hid hbh
  have hst1 := (hst.alloc #[.slice (some ⟨g, 0, none⟩) n cap, .slice (some ⟨g2, 0, none⟩) n2 cap2, vW, vR, vM] 68).get3.get3
  have HST := Lib.hid hst1
  have hB := hst.bel.size
  clear hb b3 b4 hx hR hst hst1 hl hn hn2 hEF hF hbh
  go_enter Try.func121, Try.ntmps121
  go_wp2
  go_loopg [7, 12] body.length (fun gk ov i wr => ∃ (k : Nat) (o : Nat), k ≤ body.length ∧ gk = body.length - k ∧ i = .int .i64 k ∧ ov = .int .u64 (o : Int) ∧ Hid (o < 18446744073709551616) ∧ St w0 wr (aOwn 4 1 (.slice (some ⟨g, 0, none⟩) n cap) (E.map Value.bool) :: aOwn 130 1 (.slice (some ⟨g2, 0, none⟩) n2 cap2) (F.map Fc.uV) :: aCel w.heap.size 68 #[.slice (some ⟨g, 0, none⟩) n cap, .slice (some ⟨g2, 0, none⟩) n2 cap2, vW, vR, vM] :: μ) ∧ Hid (o ||| Fc.beg E F behind (body.drop k) = R))
  case atStart => exact ⟨0, 0, by omega, by omega, rfl, rfl, Lib.hid (by decide), HST.out, HR⟩
  case round =>
    clear HST HR
    obtain ⟨k, o, hk, hgk, rfl, rfl, HO, hst, HR⟩ := hrel
    have HGK := Lib.hid hgk
    clear hgk
    by_cases hlt : k < body.length
    · obtain ⟨rfl, _, _⟩ := B3.out (by omega)
      obtain ⟨s1, s2, -, -⟩ := B4.out k hlt
      have hd := Fc.drop_at hlt (0, 0)
      have hxx := HX.out (body.getD k (0, 0)) (by rw [show body.getD k (0, 0) = body[k] by simp [List.getD, List.getElem?_eq_getElem hlt]]; exact List.getElem_mem hlt)
      have hr := HR.out
      rw [hd] at hr
      generalize body.getD k (0, 0) = x at *
      obtain ⟨x1, x2⟩ := x
      simp only at s1 s2 hxx
      have c1 := bkeep hst.bel s1
      have c2 := bkeep hst.bel s2
      have hlt2 : (k : Int) < body.length := by omega
      have HST := Lib.hid (hst.skip (.cells #[.int .i64 x1, .int .i64 x2] 61))
      rcases hxx with ⟨rfl, h0, h64⟩ | ⟨rfl, h0, h1⟩
      · rw [Fc.beg_term rfl] at hr
        obtain ⟨q, rfl⟩ := Int.eq_ofNat_of_zero_le h0
        have hpow : 2 ^ q < 18446744073709551616 := Nat.pow_lt_pow_right (a := 2) (m := q) (n := 64) (by decide) (by omega)
        have hor := bits_or_u64_nat o (2 ^ q) HO.out hpow
        have hsh : IntKind.u64.wrap ((2 : Int) ^ q) = ((2 ^ q : Nat) : Int) := by
          have e : ((2 : Int) ^ q) = ((2 ^ q : Nat) : Int) := by simp
          rw [e, IntKind.wrap_u64]
          exact Int.emod_eq_of_lt (Int.natCast_nonneg _) (Int.ofNat_lt.2 hpow)
        have HOR := Lib.hid (show bits .or .u64 (o : Int) (IntKind.u64.wrap ((2 : Int) ^ q)) = ((o ||| 2 ^ q : Nat) : Int) by rw [hsh]; exact hor)
        rw [Int.toNat_natCast] at hr
        have HR2 := Lib.hid hr
        clear s1 s2 hd hst HR hr hor hpow hsh
        go_wp2
        go_ret
        exact ⟨congrArg (fun x => Ending.returned (.int .u64 x)) (HOR.out.trans (by rw [HR2.out])), HST.out.get3.drop⟩
      · obtain ⟨q, rfl⟩ := Int.eq_ofNat_of_zero_le h0
        have hq : q < E.length := by omega
        have hqF : q < F.length := by have := HEF.out; omega
        have e1 := (hst.cellOwn (f := Value.bool) (fun _ => rfl) q hq false).1
        have f1 := (hst.get2.cellOwn (f := Fc.uV) (fun _ => rfl) q hqF 0).1
        have x0 := (hst.nth 2 rfl).celAt (i := 0) rfl
        have x1 := (hst.nth 2 rfl).celAt (i := 1) rfl
        have hqn : (q : Int) < n := by have := HN.out; omega
        have hqn2 : (q : Int) < n2 := by have := HN2.out; omega
        have l1 := World.block_lt_of_cell? _ _ c1
        have l2 := World.block_lt_of_cell? _ _ e1
        have l3 := World.block_lt_of_cell? _ _ f1
        have l4 := World.block_lt_of_cell? _ _ x0
        have hor := bits_or_u64_nat o (F.getD q 0) HO.out (HF.out q)
        have HO2 : Hid (o ||| F.getD q 0 < 18446744073709551616) := Lib.hid (Nat.or_lt_two_pow (n := 64) HO.out (HF.out q))
        have hbt : ¬ ((2 : Int) = 1) := by decide
        cases hv : E.getD q false
        · rw [hv] at e1
          rw [Fc.beg_stop hbt (by rw [Int.toNat_natCast]; exact hv), Int.toNat_natCast] at hr
          generalize F.getD q 0 = y at *
          replace f1 : wr.cell? ⟨g2, q, none⟩ = some (.int .u64 (y : Int)) := f1
          have HOR := Lib.hid hor
          have HR2 := Lib.hid hr
          clear s1 s2 hd hst HR hr hv hq hqF hor hbt
          go_wp2
          go_ret
          exact ⟨congrArg (fun x => Ending.returned (.int .u64 x)) (HOR.out.trans (by rw [HR2.out])), HST.out.get3.drop⟩
        · rw [hv] at e1
          rw [Fc.beg_on hbt (by rw [Int.toNat_natCast]; exact hv), Int.toNat_natCast, ← Nat.or_assoc] at hr
          generalize F.getD q 0 = y at *
          replace f1 : wr.cell? ⟨g2, q, none⟩ = some (.int .u64 (y : Int)) := f1
          have HOR := Lib.hid hor
          have HR2 := Lib.hid hr
          clear s1 s2 hd hst HR hr hv hq hqF hor hbt
          go_wp2
          go_roundg (body.length - (k + 1))
          case measure => have := HGK.out; omega
          case rel => exact ⟨k + 1, o ||| y, by omega, rfl, by go_num, by rw [HOR.out], HO2, HST.out, HR2⟩
    · obtain rfl : k = body.length := by omega
      have hr := HR.out
      rw [List.drop_length] at hr
      have hr2 : o ||| behind = R := hr
      have HOR := Lib.hid (bits_or_u64_nat o behind HO.out HBH.out)
      have HR2 := Lib.hid hr2
      have HST := Lib.hid hst
      clear hst HR hr hr2
      go_wp2
      go_ret
      exact ⟨congrArg (fun x => Ending.returned (.int .u64 x)) (HOR.out.trans (by rw [HR2.out])), HST.out.get3.drop⟩
end Go.Proofs.Ytkhjncbjdldpbaa

/-
  What a round reports: whether something is new. (Plain functions; nothing of the program is claimed.)
-/
namespace Go.Proofs.Ytkhjncbjdldpbaa
set_option linter.unusedVariables false

namespace Fc
abbrev S3 := List Bool × List Bool × List Bool
def cnt3 (s : S3) : Nat := cnt s.1 + cnt s.2.1 + cnt s.2.2
/-- From s0 to s: is something new? -/
def Prog (s0 s : S3) (m : Bool) : Prop := (m = false → s = s0) ∧ (m = true → cnt3 s0 < cnt3 s)
theorem Prog.refl (s : S3) : Prog s s false := ⟨fun _ => rfl, fun h => by cases h⟩
theorem Prog.e {s0 : S3} {E M R : List Bool} {m : Bool} (h : Prog s0 (E, M, R) m) {i : Nat} {b : Bool} (hi : i < E.length) : Prog s0 (set1 E i b, M, R) ((b && !E.getD i false) || m) := by
  have hc := cnt_set1 (b := b) hi
  cases hn : (b && !E.getD i false)
  · have hs : set1 E i b = E := set1_same hi (fun hb => by rw [hb] at hn; simpa using hn)
    rw [hs, Bool.false_or]; exact h
  · rw [hn] at hc
    refine ⟨(fun g => by simp at g), fun _ => ?_⟩
    cases m
    · have := h.1 rfl
      rw [← this]; unfold cnt3; simp only [if_true] at hc; simp only; omega
    · have := h.2 rfl
      unfold cnt3 at *; simp only [if_true] at hc; simp only at this ⊢; omega
theorem Prog.m {s0 : S3} {E M R : List Bool} {m : Bool} (h : Prog s0 (E, M, R) m) {i : Nat} {b : Bool} (hi : i < M.length) : Prog s0 (E, set1 M i b, R) ((b && !M.getD i false) || m) := by
  have hc := cnt_set1 (b := b) hi
  cases hn : (b && !M.getD i false)
  · have hs : set1 M i b = M := set1_same hi (fun hb => by rw [hb] at hn; simpa using hn)
    rw [hs, Bool.false_or]; exact h
  · rw [hn] at hc
    refine ⟨(fun g => by simp at g), fun _ => ?_⟩
    cases m
    · have := h.1 rfl
      rw [← this]; unfold cnt3; simp only [if_true] at hc; simp only; omega
    · have := h.2 rfl
      unfold cnt3 at *; simp only [if_true] at hc; simp only at this ⊢; omega
theorem Prog.r {s0 : S3} {E M R : List Bool} {m : Bool} (h : Prog s0 (E, M, R) m) {i : Nat} {b : Bool} (hi : i < R.length) : Prog s0 (E, M, set1 R i b) ((b && !R.getD i false) || m) := by
  have hc := cnt_set1 (b := b) hi
  cases hn : (b && !R.getD i false)
  · have hs : set1 R i b = R := set1_same hi (fun hb => by rw [hb] at hn; simpa using hn)
    rw [hs, Bool.false_or]; exact h
  · rw [hn] at hc
    refine ⟨(fun g => by simp at g), fun _ => ?_⟩
    cases m
    · have := h.1 rfl
      rw [← this]; unfold cnt3; simp only [if_true] at hc; simp only; omega
    · have := h.2 rfl
      unfold cnt3 at *; simp only [if_true] at hc; simp only at this ⊢; omega
theorem rdA_step {terms : Bool} {l : List Pr} {X : List Bool} {k : Nat} (h : k < l.length) : rdA terms (l.take (k + 1)) X = set1 (rdA terms (l.take k) X) (l.getD k (0, [])).1.toNat (all (rdA terms (l.take k) X) terms (l.getD k (0, [])).2) := by
  unfold rdA
  rw [List.take_succ_eq_append_getElem h, List.foldl_append]
  simp [List.getD, List.getElem?_eq_getElem h]
theorem rdR_step {l : List Pr} {X : List Bool} {k : Nat} (h : k < l.length) : rdR (l.take (k + 1)) X = rR (l.getD k (0, [])).1.toNat (l.getD k (0, [])).2 (rdR (l.take k) X) := by
  unfold rdR
  rw [List.take_succ_eq_append_getElem h, List.foldl_append]
  simp [List.getD, List.getElem?_eq_getElem h]
theorem rR_append {h : Nat} {x : Int × Int} {b : List (Int × Int)} : ∀ {R : List Bool}, rR h (b ++ [x]) R = if x.1 = 2 then set1 (rR h b R) x.2.toNat ((rR h b R).getD h false) else rR h b R := by
  induction b with
  | nil => intro R; rfl
  | cons y r ih => intro R; rw [List.cons_append, rR, ih, rR]
theorem rR_step {h : Nat} {b : List (Int × Int)} {R : List Bool} {k : Nat} (hk : k < b.length) : rR h (b.take (k + 1)) R = if (b.getD k (0, 0)).1 = 2 then set1 (rR h (b.take k) R) (b.getD k (0, 0)).2.toNat ((rR h (b.take k) R).getD h false) else rR h (b.take k) R := by
  rw [List.take_succ_eq_append_getElem hk, rR_append]
  simp [List.getD, List.getElem?_eq_getElem hk]
theorem cnt3_le {s : S3} {n : Nat} (h1 : s.1.length = n) (h2 : s.2.1.length = n) (h3 : s.2.2.length = n) : cnt3 s ≤ 3 * n := by
  have := cnt_le s.1; have := cnt_le s.2.1; have := cnt_le s.2.2
  unfold cnt3; omega
end Fc
end Go.Proofs.Ytkhjncbjdldpbaa
