/-
  Parts of the proof of WholeSays, put together: Mem OwnSet Read Sep Enc EncOps Pairs Gram GramChk Table LlChk Cl SepRd SepAt ClRight ClTodo ClIn Shrink SepAt4 Sliced SepAll. (Helper texts.)
-/
import Derived.Test.YtahoapgmiecphaaRows
import Derived.WalkKit
import Derived.ProofKit
import Derived.OpenShut
import Derived.ShutString
import Derived.Lib.Hide
import Derived.Outline
import Derived.WalkLawsBesides
import Derived.WalkSpells
import Derived.Laws.BitsAllLaws
import Derived.Laws.BytesArg
import Derived.Deep.QuietTactic
import Derived.BigQuiet
import Derived.Deep.DeepFit
import Derived.Deep.RegionWith
import Derived.Deep.RegionHeld3
import Derived.StillTailTactics
import Derived.Deep.LoopGhost
import Derived.Lib.AppendStr
import Derived.Lib.SmallJoins
import Derived.ChangeOld
import Derived.Deep.Slices
import Derived.Deep.MidRow
import Derived.SizedLaws
import Derived.Deep.OwnRows
import Derived.Laws.AppendOwnNone
import Derived.Deep.DeepCutAuto

/-
  Memory that a call makes itself: slices as lists of elements. Laws for append, for reading, for a text made of bytes. (A helper text; it claims nothing of the program.)
-/
namespace Go.Proofs.Ytahoapgmiecphaa
set_option linter.unusedVariables false
open Go.ChangeShapes Go.WideShapes Go.ChangeAt Go.RowKit

theorem ret_int {k : IntKind} {a b : Int} (h : a = b) : Ending.returned (.int k a) = .returned (.int k b) := by rw [h]
theorem int_eq {k : IntKind} {a b : Int} (h : a = b) : Value.int k a = .int k b := by rw [h]

/-- A slice type t with elements of type e, each of 'size' cells and 'bytes' bytes. -/
structure ET (P : Program) (t e : TypeId) (size bytes : Nat) : Prop where
  ht : P.underlying t = some (.slice e)
  info : ∃ i z, P.info? e = some i ∧ i.zero = some z ∧ i.size = size ∧ i.bytes = bytes ∧ z.cells.size = size
  pos : 0 < size

theorem ET.mk' {P : Program} {t e : TypeId} {size bytes : Nat} {z : Value} (ht : P.underlying t = some (.slice e))
    (h : (P.info? e).map (fun i => (i.zero, i.size, i.bytes)) = some (some z, size, bytes)) (hz : z.cells.size = size) (hp : 0 < size) : ET P t e size bytes := by
  obtain ⟨i, h1, h2, h3, h4⟩ := info_parts h
  exact ⟨ht, ⟨i, z, h1, h2, h3, h4, hz⟩, hp⟩

def cellsOf (xs : List Value) : List Value := xs.flatMap fun v => v.cells.toList

/-- The slice value v, made by the call itself (its block is B or above), holds just the elements xs. -/
def Own (w : World) (B : Nat) (e : TypeId) (size : Nat) (v : Value) (xs : List Value) : Prop :=
  w.ownsRow B e size v xs.length (cellsOf xs)

theorem cellsOf_append (xs ys : List Value) : cellsOf (xs ++ ys) = cellsOf xs ++ cellsOf ys := by simp [cellsOf]
theorem cellsOf_ints (k : IntKind) (xs : List Int) : cellsOf (xs.map (Value.int k)) = xs.map (Value.int k) := by
  induction xs with
  | nil => rfl
  | cons x xs ih => simpa [cellsOf, Value.cells] using ih

section
variable {w : World} {B : Nat} {e : TypeId} {size : Nat} {v : Value} {xs : List Value}
theorem Own.nil (w : World) (B : Nat) (e : TypeId) (size : Nat) : Own w B e size (.slice none 0 0) [] := World.ownsRow_nil _ _ _ _
theorem Own.alloc (h : Own w B e size v xs) (o : Obj) : Own (w.alloc o) B e size v xs := World.ownsRow.alloc h o
theorem Own.drew (h : Own w B e size v xs) : Own w.drew B e size v xs := h
theorem Own.kept {w' : World} {row : Option Nat} (h : Own w B e size v xs) (hg : w.grownBy w' row) (hne : v.ownBlock = none ∨ v.ownBlock ≠ row) : Own w' B e size v xs := World.ownsRow.kept h hg hne
theorem Own.lt (h : Own w B e size v xs) : ∀ k, v.ownBlock = some k → B ≤ k ∧ k < w.heap.size := World.ownsRow.lt h
/-- The shape of the value. -/
theorem Own.shape (h : Own w B e size v xs) : (v = .slice none 0 0 ∧ xs = []) ∨ ∃ g cap, v = .slice (some ⟨g, 0, none⟩) xs.length cap ∧ B ≤ g ∧ g < w.heap.size := by
  rcases h.2 with ⟨h1, h2⟩ | ⟨g, cap, cur, h1, h2, h3, _⟩
  · exact .inl ⟨h1, List.eq_nil_of_length_eq_zero h2⟩
  · exact .inr ⟨g, cap, h1, h2, (Array.getElem?_eq_some_iff.1 h3).1⟩
/-- Below a block number that is no greater than the slice's own nothing of it lies: a world that is the same from the block up to 'B2' keeps it. -/
theorem Own.below {w' : World} {B2 : Nat} (h : Own w B e size v xs) (hb : Below B2 w w') (hlt : ∀ k, v.ownBlock = some k → k < B2) : Own w' B e size v xs := by
  refine ⟨h.1, ?_⟩
  rcases h.2 with hn | ⟨g, cap, cur, rfl, hB, hgg, rest⟩
  · exact .inl hn
  · refine .inr ⟨g, cap, cur, rfl, hB, ?_, rest⟩
    rw [hb.block g (hlt g rfl)]
    exact hgg
theorem Own.len {g n cap : Nat} (h : Own w B e size (.slice (some ⟨g, 0, none⟩) n cap) xs) : n = xs.length := by
  rcases h.2 with ⟨h1, _⟩ | ⟨g', cap', cur, h1, _⟩
  · cases h1
  · simp only [Value.slice.injEq] at h1; exact h1.2.1
theorem Own.call {w' : World} (h : Own w B e size v xs) (hb : Below w.heap.size w w') : Own w' B e size v xs :=
  h.below hb fun k hk => (h.lt k hk).2
end

theorem oneCells (u : Value) : cellsOf [u] = u.cells.toList := by simp [cellsOf]

/-- append(s, u): one element more. -/
theorem app1 {P : Program} {w : World} {t e : TypeId} {size bytes : Nat} (E : ET P t e size bytes) {ops : Array Oper} {rest : List Oper} {o : Oper} {a : Act} {Q : Exit → Act → World → Prop}
    (hgd : o.guard = none) (s x : Operand)
    (ho : o.op = .call { callee := .builtin .append, args := #[s, x], argTypes := #[t, t] }) (B : Nat) {v : Value} (xs : List Value)
    (hs : a.eval s = v) (hown : Own w B e size v xs) (u : Value) (g c : Nat) (hx : a.eval x = .slice (some ⟨g, 0, none⟩) 1 c)
    (hu : ∀ j q, u.cells.toList[j]? = some q → w.cell? ⟨g, j, none⟩ = some q) (hsz : u.cells.toList.length = size) (h1 : ∀ q ∈ u.cells.toList, q.oneCell' = true)
    (hroom : (xs.length + 1) * bytes ≤ 140737488355328) (hlen : xs.length + 1 ≤ maxLen) (hB : B ≤ w.heap.size)
    (h : ∀ g' n' cap w', Own w' B e size (.slice (some ⟨g', 0, none⟩) n' cap) (xs ++ [u]) → w.grownBy w' v.ownBlock → B ≤ g' → g' < w'.heap.size →
      wpList P ops Q rest (a.put o.dst (.slice (some ⟨g', 0, none⟩) n' cap)) w') : wpList P ops Q (o :: rest) a w := by
  obtain ⟨ht, ⟨i, z, hi, hz, hsize, hby, hzs⟩, hp⟩ := E
  refine wpList_append_own w hgd s x t ho B e i z size bytes ht hi hz hsize hby hzs hp v xs.length (cellsOf xs) hs hown ⟨g, 0, none⟩ 1 c u.cells.toList hx (by omega) ?_ h1 hlen hroom hB ?_
  · intro j q hq
    have hadd : (⟨g, 0, none⟩ : Addr).add j = ⟨g, j, none⟩ := by unfold Addr.add; split <;> simp_all
    rw [hadd]
    exact hu j q hq
  · intro v' w' hown' hgrow hnil
    have hown2 : Own w' B e size v' (xs ++ [u]) := by
      unfold Own
      rw [cellsOf_append, oneCells u, List.length_append]
      exact hown'
    rcases hown2.shape with ⟨h1, h2⟩ | ⟨g', cap, h1, h2, h3⟩
    · simp at h2
    · subst h1
      exact h g' _ cap w' hown2 hgrow h2 h3

/-- append(s, c) of a number. -/
theorem app1i {P : Program} {w : World} {t e : TypeId} {bytes : Nat} (E : ET P t e 1 bytes) {ops : Array Oper} {rest : List Oper} {o : Oper} {a : Act} {Q : Exit → Act → World → Prop}
    (hgd : o.guard = none) (s x : Operand)
    (ho : o.op = .call { callee := .builtin .append, args := #[s, x], argTypes := #[t, t] }) (B : Nat) {v : Value} {k : IntKind} (xs : List Int)
    (hs : a.eval s = v) (hown : Own w B e 1 v (xs.map (Value.int k))) (n : Int) (g c : Nat) (hx : a.eval x = .slice (some ⟨g, 0, none⟩) 1 c)
    (hu : w.cell? ⟨g, 0, none⟩ = some (.int k n)) (hroom : (xs.length + 1) * bytes ≤ 140737488355328) (hlen : xs.length + 1 ≤ maxLen) (hB : B ≤ w.heap.size)
    (h : ∀ g' n' cap w', Own w' B e 1 (.slice (some ⟨g', 0, none⟩) n' cap) ((xs ++ [n]).map (Value.int k)) → w.grownBy w' v.ownBlock → B ≤ g' → g' < w'.heap.size →
      wpList P ops Q rest (a.put o.dst (.slice (some ⟨g', 0, none⟩) n' cap)) w') : wpList P ops Q (o :: rest) a w := by
  refine app1 E hgd s x ho B (xs.map (Value.int k)) hs hown (.int k n) g c hx ?_ rfl ?_ (by simpa using hroom) (by simpa using hlen) hB ?_
  · intro j q hq
    match j, hq with
    | 0, hq => simp [Value.cells] at hq; subst hq; exact hu
    | j + 1, hq => simp [Value.cells] at hq
  · intro q hq; simp [Value.cells] at hq; subst hq; rfl
  · intro g' n' cap w' h1 h2 h3 h4
    refine h g' n' cap w' ?_ h2 h3 h4
    rw [List.map_append]; exact h1

theorem cell_new (w : World) (v : Value) (T : TypeId) : (w.alloc (.cells #[v] T)).cell? ⟨w.heap.size, 0, none⟩ = some v := by
  rw [World.cell?_alloc_new]; rfl

/-- string(b), of bytes that the call itself has gathered. -/
theorem str_of_own {P : Program} {w : World} {src e dst : TypeId} {B : Nat} {g n cap : Nat} (hs : P.underlying src = some (.slice e)) (he : P.underlying e = some (.int .u8)) (hd : P.underlying dst = some .string)
    (xs : List Int) (h : Own w B e 1 (.slice (some ⟨g, 0, none⟩) n cap) (xs.map (Value.int .u8))) :
    (convert src dst (.slice (some ⟨g, 0, none⟩) n cap)).run P w = .ok (.string (strOfNums xs)) w := by
  have hn : n = xs.length := by
    rcases h.2 with ⟨h1, _⟩ | ⟨g', cap', cur, h1, _⟩
    · cases h1
    · simp only [Value.slice.injEq] at h1; simpa using h1.2.1
  subst hn
  have hr : w.ownsRow B e 1 (.slice (some ⟨g, 0, none⟩) xs.length cap) xs.length (xs.map (Value.int .u8)) := by
    have := h
    unfold Own at this
    rw [cellsOf_ints, List.length_map] at this
    exact this
  refine run_convert_bytes_arg w src e hs he g 0 xs.length cap xs rfl (fun i hi => ?_) dst hd
  rw [Nat.zero_add, hr.cellAt i (by omega)]
  simp [List.getD, List.getElem?_eq_getElem hi]

/-- string([]byte{c}): the one cell. -/
theorem str_of_one {P : Program} {src e dst : TypeId} (hs : P.underlying src = some (.slice e)) (he : P.underlying e = some (.int .u8)) (hd : P.underlying dst = some .string)
    (c : Int) (b cap : Nat) (w : World) (h : w.cell? ⟨b, 0, none⟩ = some (.int .u8 c)) :
    (convert src dst (.slice (some ⟨b, 0, none⟩) 1 cap)).run P w = .ok (.string (strOfNums [c])) w := by
  refine run_convert_bytes_arg w src e hs he b 0 1 cap [c] rfl (fun i hi => ?_) dst hd
  obtain rfl : i = 0 := by omega
  exact h

theorem bcell {W w1 : World} (hb : Below W.heap.size W w1) : (∀ b o, b < W.heap.size → w1.cell? ⟨b, o, none⟩ = W.cell? ⟨b, o, none⟩) ∧ (∀ b o, b < W.heap.size → w1.frozen? ⟨b, o, none⟩ = W.frozen? ⟨b, o, none⟩) :=
  ⟨fun b o h => hb.cell (p := ⟨b, o, none⟩) h, fun b o h => hb.frozen (p := ⟨b, o, none⟩) h⟩
theorem bkeep {w w' : World} (hb : Below w.heap.size w w') {p : Addr} {c : Value} (h : w.cell? p = some c) : w'.cell? p = some c :=
  (hb.cell (World.block_lt_of_cell? w p h)).trans h

theorem cell_new_drew (w : World) (v : Value) (T : TypeId) : (w.alloc (.cells #[v] T)).drew.cell? ⟨w.heap.size, 0, none⟩ = some v := cell_new w v T
theorem strOfNums_cons (x : Int) (xs : List Int) : strOfNums (x :: xs) = strOfNums [x] ++ strOfNums xs := by
  apply ByteArray.ext
  simp [strOfNums, ByteArray.data_append]
theorem strOfNums_append (xs ys : List Int) : strOfNums (xs ++ ys) = ⟨(strOfNums xs).data ++ (strOfNums ys).data⟩ := by simp [strOfNums]

/-- The bytes of a text as numbers. -/
def strI (s : ByteArray) : List Int := s.data.toList.map fun b => (b.toNat : Int)
theorem strI_length (s : ByteArray) : (strI s).length = s.size := by simp [strI]
theorem strOfNums_strI (s : ByteArray) : strOfNums (strI s) = s := by
  apply ByteArray.ext
  simp [strOfNums, strI, Function.comp_def]
theorem strOfNums_app (xs ys : List Int) : strOfNums (xs ++ ys) = strOfNums xs ++ strOfNums ys := by
  apply ByteArray.ext
  simp [strOfNums, ByteArray.data_append]

/-- A slice that is written out. -/
theorem own_lit {w : World} {B n : Nat} {e : TypeId} {k : IntKind} (cs : Array Value) (xs : List Int) (hcs : cs.toList = xs.map (Value.int k)) (hn : n = xs.length) (hB : B ≤ w.heap.size) (hm : n ≤ maxLen) :
    Own (w.alloc (.cells cs e)) B e 1 (.slice (some ⟨w.heap.size, 0, none⟩) n n) (xs.map (Value.int k)) := by
  have hsz : cs.size = xs.length := by rw [← Array.length_toList, hcs, List.length_map]
  refine ⟨by rw [cellsOf_ints]; simp, .inr ⟨w.heap.size, n, cs, by rw [hn, List.length_map], hB, heap_alloc_new w _, by rw [hn, List.length_map]; exact Nat.le_refl _, hm, by omega, ?_⟩⟩
  rw [hcs, cellsOf_ints]
  exact List.take_of_length_le (by simp)

theorem cells_lit {w : World} (cs : Array Value) (T : TypeId) (j : Nat) (q : Value) (h : cs.toList[j]? = some q) : (w.alloc (.cells cs T)).cell? ⟨w.heap.size, j, none⟩ = some q := by
  rw [World.cell?_alloc_new]; simpa using h

/-- append(s, a, b, ..): some numbers more. -/
theorem appNi {P : Program} {w : World} {t e : TypeId} {bytes : Nat} (E : ET P t e 1 bytes) {ops : Array Oper} {rest : List Oper} {o : Oper} {a : Act} {Q : Exit → Act → World → Prop}
    (hgd : o.guard = none) (s x : Operand)
    (ho : o.op = .call { callee := .builtin .append, args := #[s, x], argTypes := #[t, t] }) (B : Nat) {v : Value} {k : IntKind} (xs news : List Int)
    (hs : a.eval s = v) (hown : Own w B e 1 v (xs.map (Value.int k))) (g m c : Nat) (hx : a.eval x = .slice (some ⟨g, 0, none⟩) m c) (hm : m = news.length)
    (hu : ∀ j q, (news.map (Value.int k))[j]? = some q → w.cell? ⟨g, j, none⟩ = some q) (hne : 0 < news.length) (hroom : (xs.length + news.length) * bytes ≤ 140737488355328) (hlen : xs.length + news.length ≤ maxLen) (hB : B ≤ w.heap.size)
    (h : ∀ g' n' cap w', Own w' B e 1 (.slice (some ⟨g', 0, none⟩) n' cap) ((xs ++ news).map (Value.int k)) → w.grownBy w' v.ownBlock → B ≤ g' → g' < w'.heap.size →
      wpList P ops Q rest (a.put o.dst (.slice (some ⟨g', 0, none⟩) n' cap)) w') : wpList P ops Q (o :: rest) a w := by
  obtain ⟨ht, ⟨i, z, hi, hz, hsize, hby, hzs⟩, hp⟩ := E
  subst hm
  refine wpList_append_own w hgd s x t ho B e i z 1 bytes ht hi hz hsize hby hzs hp v xs.length (xs.map (Value.int k)) hs (by have := hown; unfold Own at this; rw [cellsOf_ints, List.length_map] at this; exact this) ⟨g, 0, none⟩ news.length c (news.map (Value.int k)) hx (by simp) ?_ ?_ hlen hroom hB ?_
  · intro j q hq
    have hadd : (⟨g, 0, none⟩ : Addr).add j = ⟨g, j, none⟩ := by unfold Addr.add; split <;> simp_all
    rw [hadd]
    exact hu j q hq
  · intro q hq; simp only [List.mem_map] at hq; obtain ⟨n, _, rfl⟩ := hq; rfl
  · intro v' w' hown' hgrow hnil
    have hown2 : Own w' B e 1 v' ((xs ++ news).map (Value.int k)) := by
      unfold Own
      rw [cellsOf_ints, List.length_map, List.length_append, List.map_append]
      exact hown'
    rcases hown2.shape with ⟨h1, h2⟩ | ⟨g', cap, h1, h2, h3⟩
    · simp at h2; rw [h2.2] at hne; simp at hne
    · subst h1
      exact h g' _ cap w' hown2 hgrow h2 h3

/-- append(s, l...): whatever the list, also an empty one. -/
theorem appNg {P : Program} {w : World} {t e : TypeId} {bytes : Nat} (E : ET P t e 1 bytes) {ops : Array Oper} {rest : List Oper} {o : Oper} {a : Act} {Q : Exit → Act → World → Prop}
    (hgd : o.guard = none) (s x : Operand)
    (ho : o.op = .call { callee := .builtin .append, args := #[s, x], argTypes := #[t, t] }) (B : Nat) {v : Value} {k : IntKind} (xs news : List Int)
    (hs : a.eval s = v) (hown : Own w B e 1 v (xs.map (Value.int k))) (ad : Addr) (m c : Nat) (hx : a.eval x = .slice (some ad) m c) (hm : m = news.length)
    (hu : ∀ j q, (news.map (Value.int k))[j]? = some q → w.cell? (ad.add j) = some q) (hroom : (xs.length + news.length) * bytes ≤ 140737488355328) (hlen : xs.length + news.length ≤ maxLen) (hB : B ≤ w.heap.size)
    (h : ∀ v' w', Own w' B e 1 v' ((xs ++ news).map (Value.int k)) → w.grownBy w' v.ownBlock → wpList P ops Q rest (a.put o.dst v') w') : wpList P ops Q (o :: rest) a w := by
  obtain ⟨ht, ⟨i, z, hi, hz, hsize, hby, hzs⟩, hp⟩ := E
  subst hm
  refine wpList_append_own w hgd s x t ho B e i z 1 bytes ht hi hz hsize hby hzs hp v xs.length (xs.map (Value.int k)) hs (by have := hown; unfold Own at this; rw [cellsOf_ints, List.length_map] at this; exact this) ad news.length c (news.map (Value.int k)) hx (by simp) hu ?_ hlen hroom hB ?_
  · intro q hq; simp only [List.mem_map] at hq; obtain ⟨n, _, rfl⟩ := hq; rfl
  · intro v' w' hown' hgrow hnil
    refine h v' w' ?_ hgrow
    unfold Own
    rw [cellsOf_ints, List.length_map, List.length_append, List.map_append]
    exact hown'

/-- append(b, s...) of a text; b is not nil. -/
theorem appStr {P : Program} {w : World} {t u e : TypeId} {bytes : Nat} (E : ET P t e 1 bytes) (hby1 : bytes = 1) (hz0 : (P.info? e).map (fun i => i.zero) = some (some (.int .u8 0))) (htu : P.underlying u = some .string) {ops : Array Oper} {rest : List Oper} {o : Oper} {a : Act} {Q : Exit → Act → World → Prop}
    (hgd : o.guard = none) (sl x : Operand)
    (ho : o.op = .call { callee := .builtin .append, args := #[sl, x], argTypes := #[t, u] }) (B : Nat) {g0 n0 cap0 : Nat} (xs : List Int)
    (hs : a.eval sl = .slice (some ⟨g0, 0, none⟩) n0 cap0) (hown : Own w B e 1 (.slice (some ⟨g0, 0, none⟩) n0 cap0) (xs.map (Value.int .u8))) (s : ByteArray) (hx : a.eval x = .string s)
    (hroom : xs.length + s.size ≤ 140737488355328) (hB : B ≤ w.heap.size)
    (h : ∀ g' n' cap w', Own w' B e 1 (.slice (some ⟨g', 0, none⟩) n' cap) ((xs ++ strI s).map (Value.int .u8)) → w.grownBy w' (some g0) → B ≤ g' → g' < w'.heap.size →
      wpList P ops Q rest (a.put o.dst (.slice (some ⟨g', 0, none⟩) n' cap)) w') : wpList P ops Q (o :: rest) a w := by
  obtain ⟨ht, ⟨i, z, hi, hz, hsize, hby, hzs⟩, hp⟩ := E
  subst hby1
  rw [hi] at hz0
  have hz1 : i.zero = some (.int .u8 0) := by simpa using hz0
  refine Lib.wpList_append_own_string w hgd sl x t u ho B e i ht htu hi hz1 hsize hby _ xs.length (xs.map (Value.int .u8)) hs (by have := hown; unfold Own at this; rw [cellsOf_ints, List.length_map] at this; exact this) s hx (by unfold maxLen; omega) hroom hB ?_
  intro v' w' hown' hgrow hnil
  have hown2 : Own w' B e 1 v' ((xs ++ strI s).map (Value.int .u8)) := by
    unfold Own
    rw [cellsOf_ints, List.length_map, List.length_append, strI_length, List.map_append]
    have e2 : (strI s).map (Value.int .u8) = Lib.strCells s := by simp [strI, Lib.strCells, Function.comp_def]
    rw [e2]
    exact hown'
  rcases hown2.shape with ⟨h1, h2⟩ | ⟨g', cap, h1, h2, h3⟩
  · exact absurd (hnil.1 h1).1 (by simp)
  · subst h1
    exact h g' _ cap w' hown2 hgrow h2 h3

theorem intE : ET Try.prog 25 3 1 8 := ET.mk' Try.underlying25 (z := .int .i64 0) (by kernel_rfl) rfl (by decide)
theorem u8E : ET Try.prog 256 5 1 1 := ET.mk' Try.underlying256 (z := .int .u8 0) (by kernel_rfl) rfl (by decide)
end Go.Proofs.Ytahoapgmiecphaa

/-
  A slice that the call made: one of its elements is stored anew.
-/
namespace Go.Proofs.Ytahoapgmiecphaa
set_option linter.unusedVariables false
open Go.ChangeShapes Go.WideShapes Go.ChangeAt Go.RowKit

theorem cellsOf_one {α : Type} (f : α → Value) (hf : ∀ a, (f a).cells = #[f a]) (l : List α) : cellsOf (l.map f) = l.map f := by
  induction l with
  | nil => rfl
  | cons a l ih => simpa [cellsOf, hf] using ih

theorem Own.set {α : Type} {f : α → Value} (hf : ∀ a, (f a).cells = #[f a]) {w : World} {B : Nat} {e : TypeId} {g n cap : Nat} {l : List α} (h : Own w B e 1 (.slice (some ⟨g, 0, none⟩) n cap) (l.map f)) (q : Nat) (a : α) :
    Own (w.setCell ⟨g, q, none⟩ (f a)) B e 1 (.slice (some ⟨g, 0, none⟩) n cap) ((l.set q a).map f) := by
  unfold Own at h ⊢
  rw [cellsOf_one f hf, List.length_map] at h ⊢
  rw [List.length_set]
  obtain ⟨h1, h2⟩ := h
  refine ⟨by simp, ?_⟩
  rcases h2 with ⟨h2, _⟩ | ⟨g', cap', cur, hv, hB, hg, hn, hc, hcs, htk⟩
  · cases h2
  · simp only [Value.slice.injEq, Option.some.injEq, Addr.mk.injEq] at hv
    obtain ⟨⟨rfl, _⟩, rfl, rfl⟩ := hv
    refine .inr ⟨g, cap, cur.setIfInBounds q (f a), rfl, hB, heap_setCell_same _ _ _ _ _ _ hg, hn, hc, by simpa using hcs, ?_⟩
    rw [Array.toList_setIfInBounds, List.take_set, htk, List.map_set]

theorem Own.cellAt {α : Type} {f : α → Value} (hf : ∀ a, (f a).cells = #[f a]) {w : World} {B : Nat} {e : TypeId} {g n cap : Nat} {l : List α} (h : Own w B e 1 (.slice (some ⟨g, 0, none⟩) n cap) (l.map f)) (i : Nat) (hi : i < l.length) (d : α) :
    w.cell? ⟨g, i, none⟩ = some (f (l.getD i d)) ∧ w.frozen? ⟨g, i, none⟩ = false ∧ B ≤ g ∧ g < w.heap.size := by
  have hr := h
  unfold Own at hr
  rw [cellsOf_one f hf, List.length_map] at hr
  have h1 := World.ownsRow.cellAt (g := g) (cap := cap) (n := l.length) (by
    rcases hr.2 with ⟨h2, _⟩ | ⟨g', cap', cur, hv, r⟩
    · cases h2
    · simp only [Value.slice.injEq, Option.some.injEq, Addr.mk.injEq] at hv
      obtain ⟨⟨rfl, _⟩, rfl, rfl⟩ := hv
      exact hr) i (by omega)
  refine ⟨by rw [h1]; simp [List.getD, List.getElem?_eq_getElem hi], ?_, ?_⟩
  · rcases hr.2 with ⟨h2, _⟩ | ⟨g', cap', cur, hv, hB, hg, _⟩
    · cases h2
    · simp only [Value.slice.injEq, Option.some.injEq, Addr.mk.injEq] at hv
      obtain ⟨⟨rfl, _⟩, rfl, rfl⟩ := hv
      exact frozen_of_row _ _ _ _ _ hg
  · exact h.lt g rfl
end Go.Proofs.Ytahoapgmiecphaa

/-
  Arguments that come in, read as plain data: slices as lists, structs field by field. (A helper text; it claims nothing of the program.)
-/
namespace Go.Proofs.Ytahoapgmiecphaa
set_option linter.unusedVariables false
open Go.ChangeShapes Go.WideShapes Go.ChangeAt Go.RowKit

section
variable {H : Type} {enc : TypeId × Value → H} {P : Program} {w : World} {base : Nat} {spare : Nat → Bool} {held : Bool}

/-- The slice value v reads as the list l: its elements are 'size' cells each, and R tells what such cells read as. -/
def Sl {α : Type} (w : World) (size : Nat) (R : List Value → α → Prop) (v : Value) (l : List α) : Prop :=
  ∃ (ao : Option Addr) (b off cap : Nat), v = .slice ao l.length cap ∧ l.length ≤ cap ∧ cap ≤ maxLen ∧ (0 < l.length → ao = some ⟨b, off, none⟩ ∧ b < w.heap.size) ∧
    ∀ i (h : i < l.length), ∃ cs, cs.length = size ∧ (∀ j, j < size → w.cell? ⟨b, off + i * size + j, none⟩ = cs[j]?) ∧ R cs l[i]

theorem Sl.call {α : Type} {size : Nat} {R R' : List Value → α → Prop} {v : Value} {l : List α} {w' : World} (h : Sl w size R v l) (hb : Below w.heap.size w w') (hR : ∀ cs a, R cs a → R' cs a) : Sl w' size R' v l := by
  obtain ⟨ao, b, off, cap, hv, h1, h2, h3, h4⟩ := h
  refine ⟨ao, b, off, cap, hv, h1, h2, fun hl => ⟨(h3 hl).1, Nat.lt_of_lt_of_le (h3 hl).2 hb.size⟩, fun i hi => ?_⟩
  obtain ⟨cs, h5, h6, h7⟩ := h4 i hi
  exact ⟨cs, h5, fun j hj => by rw [hb.cell (h3 (by omega)).2]; exact h6 j hj, hR _ _ h7⟩

theorem list_of_each {α : Type} {n : Nat} {p : Nat → α → Prop} (h : ∀ i, i < n → ∃ a, p i a) : ∃ l : List α, l.length = n ∧ ∀ i (hi : i < l.length), p i l[i] := by
  induction n with
  | zero => exact ⟨[], rfl, fun i hi => by simp at hi⟩
  | succ n ih =>
    obtain ⟨l, hl, hp⟩ := ih fun i hi => h i (by omega)
    obtain ⟨a, ha⟩ := h n (by omega)
    refine ⟨l ++ [a], by simp [hl], fun i hi => ?_⟩
    by_cases e : i < l.length
    · rw [List.getElem_append_left e]; exact hp i e
    · have e2 : i = l.length := by simp at hi; omega
      subst e2
      rw [List.getElem_append_right (Nat.le_refl _)]
      simpa [hl] using ha

/-- A slice that came in, opened. -/
theorem open_sl {α : Type} {t e : TypeId} {size fuel : Nat} {cs : List Value} {x : DataW H × List MemPlace} {R : List Value → α → Prop} (ht : P.underlying t = some (.slice e)) (hs : P.cellsOf e = size) (hp : 0 < size)
    (h : DataW.trod enc P w base spare held fuel t cs = some x)
    (hR : ∀ n cs y, cs.length = size → DataW.trod enc P w base spare held n e cs = some y → ∃ a, R cs a) : ∃ v l, cs = [v] ∧ Sl w size R v l := by
  rcases DataW.trod_slice ht h with ⟨h0, _⟩ | ⟨a, len, cap, elems, rest, n, _, rfl, _, hb, hl, hm, hlen, hel, _⟩
  · exact ⟨_, [], h0, none, 0, 0, 0, rfl, Nat.le_refl _, by decide, fun h => by simp at h, fun i hi => by simp at hi⟩
  · subst hs
    obtain ⟨b, off, spot⟩ := a
    have each : ∀ i, i < len → ∃ q : α × List Value, (∃ cs', w.cells? base ((⟨b, off, spot⟩ : Addr).add (i * P.cellsOf e)) (P.cellsOf e) = some cs' ∧ q.2 = cs' ∧ R cs' q.1) := by
      intro i hi
      have h1 := hel i hi
      rw [List.getElem?_eq_getElem (by omega)] at h1
      obtain ⟨cs', h2, h3⟩ := Option.bind_eq_some_iff.1 h1
      obtain ⟨hbb, hl2, _⟩ := World.cells?_some h2
      obtain ⟨a, ha⟩ := hR n cs' _ hl2 h3
      exact ⟨(a, cs'), cs', h2, rfl, ha⟩
    obtain ⟨l, hl1, hl2⟩ := list_of_each each
    refine ⟨_, l.map (·.1), rfl, some ⟨b, off, spot⟩, b, off, cap, by simp [hl1], by simp [hl1]; omega, hm, fun hpos => ?_, fun i hi => ?_⟩
    · have hi0 : 0 < l.length := by simpa using hpos
      obtain ⟨cs', h2, _, _⟩ := hl2 0 hi0
      obtain ⟨_, hl3, hc⟩ := World.cells?_some h2
      have h0 := hc 0 hp
      have e : ∃ q, cs'[0]? = some q := ⟨cs'[0]'(by omega), List.getElem?_eq_getElem (by omega)⟩
      obtain ⟨q, hq⟩ := e
      rw [hq] at h0
      have hz : ((⟨b, off, spot⟩ : Addr).add (0 * P.cellsOf e)).add 0 = ⟨b, off, spot⟩ := by simp [Addr.add]
      rw [hz] at h0
      have hspot := World.cell?_spot h0
      have hblk := World.block_lt_of_cell? w _ h0
      simp only at hspot
      subst hspot
      exact ⟨rfl, hblk⟩
    · have hi0 : i < l.length := by simpa using hi
      obtain ⟨cs', h2, h5, h6⟩ := hl2 i hi0
      obtain ⟨_, hl3, hc⟩ := World.cells?_some h2
      have spot0 : spot = none := by
        obtain ⟨cs0, g2, _, _⟩ := hl2 0 (by omega)
        obtain ⟨_, g3, gc⟩ := World.cells?_some g2
        have h0 := gc 0 hp
        rw [List.getElem?_eq_getElem (by omega)] at h0
        have hz : ((⟨b, off, spot⟩ : Addr).add (0 * P.cellsOf e)).add 0 = ⟨b, off, spot⟩ := by simp [Addr.add]
        rw [hz] at h0
        exact World.cell?_spot h0
      subst spot0
      refine ⟨cs', hl3, fun j hj => ?_, by simpa [h5] using h6⟩
      rw [← hc j hj]
      congr 1
      unfold Addr.add
      by_cases e1 : i * P.cellsOf e = 0 <;> by_cases e2 : j = 0 <;> simp [e1, e2]
end

/-! What cells read as. -/
def RInt (k : IntKind) (cs : List Value) (n : Int) : Prop := cs = [.int k n] ∧ (Lit.int k n).wf = true
def RBool (cs : List Value) (b : Bool) : Prop := cs = [.bool b]
def RStr (cs : List Value) (s : ByteArray) : Prop := cs = [.string s] ∧ s.size ≤ maxLen
def RSl {α : Type} (w : World) (size : Nat) (R : List Value → α → Prop) (cs : List Value) (l : List α) : Prop := ∃ v, cs = [v] ∧ Sl w size R v l

section
variable {H : Type} {enc : TypeId × Value → H} {P : Program} {w : World} {base : Nat} {spare : Nat → Bool} {held : Bool} {t e : TypeId} {n : Nat} {cs : List Value} {y : DataW H × List MemPlace}
theorem rInt {k : IntKind} (ht : P.underlying t = some (.int k)) (h : DataW.trod enc P w base spare held n t cs = some y) : ∃ a, RInt k cs a := by
  obtain ⟨m, h1, _, h2⟩ := DataW.trod_int ht h
  exact ⟨m, h1, h2⟩
theorem rBool (ht : P.underlying t = some .bool) (h : DataW.trod enc P w base spare held n t cs = some y) : ∃ a, RBool cs a := by
  obtain ⟨m, h1, _⟩ := DataW.trod_bool ht h
  exact ⟨m, h1⟩
theorem rStr (ht : P.underlying t = some .string) (h : DataW.trod enc P w base spare held n t cs = some y) : ∃ a, RStr cs a := by
  obtain ⟨m, h1, _, h2⟩ := DataW.trod_string ht h
  exact ⟨m, h1, h2⟩
theorem rSl {α : Type} {size : Nat} {R : List Value → α → Prop} (ht : P.underlying t = some (.slice e)) (hs : P.cellsOf e = size) (hp : 0 < size)
    (hR : ∀ n cs y, cs.length = size → DataW.trod enc P w base spare held n e cs = some y → ∃ a, R cs a) (h : DataW.trod enc P w base spare held n t cs = some y) : ∃ l, RSl w size R cs l := by
  obtain ⟨v, l, h1, h2⟩ := open_sl ht hs hp h hR
  exact ⟨l, v, h1, h2⟩
/-- A struct's field. -/
theorem rField {fs : Array Field} (ht : P.underlying t = some (.struct fs)) (h : DataW.trod enc P w base spare held n t cs = some y) (i : Nat) (f : Field) (hf : fs[i]? = some f) :
    ∃ m z, DataW.trod enc P w base spare held m f.type ((cs.drop f.offset).take (P.cellsOf f.type)) = some z := by
  obtain ⟨xs, m, _, _, _, hlen, hel⟩ := DataW.trod_struct ht h
  have h1 := hel i f hf
  have hi : i < fs.size := (Array.getElem?_eq_some_iff.1 hf).1
  rw [List.getElem?_eq_getElem (by omega)] at h1
  exact ⟨m, _, h1⟩
end

/-- Element i of a slice that came in. -/
theorem Sl.range {α : Type} {size : Nat} {R : List Value → α → Prop} {b off : Nat} {l : List α} {w : World}
    (h : ∀ i (h : i < l.length), ∃ cs, cs.length = size ∧ (∀ j, j < size → w.cell? ⟨b, off + i * size + j, none⟩ = cs[j]?) ∧ R cs l[i]) (i : Nat) (hi : i < l.length) :
    ∃ cs, R cs l[i] ∧ w.rangeAt b (off + i * size) cs := by
  obtain ⟨cs, h1, h2, h3⟩ := h i hi
  refine ⟨cs, h3, fun j v hv => ?_⟩
  have hj : j < cs.length := (List.getElem?_eq_some_iff.1 hv).1
  rw [h2 j (by omega), hv]

theorem rangeAt_below {w w' : World} (hb : Below w.heap.size w w') {b off : Nat} {cs : List Value} (h : w.rangeAt b off cs) : w'.rangeAt b off cs :=
  fun j v hv => bkeep hb (h j v hv)

def RRow (k : IntKind) (n : Nat) (cs : List Value) (row : List Int) : Prop := cs = row.map (Value.int k) ∧ row.length = n ∧ ∀ x ∈ row, (Lit.int k x).wf = true

/-- An array of numbers, by value. -/
theorem rRow {H : Type} {enc : TypeId × Value → H} {P : Program} {w : World} {base : Nat} {spare : Nat → Bool} {held : Bool} {t e : TypeId} {m n : Nat} {cs : List Value} {y : DataW H × List MemPlace} {k : IntKind}
    (ht : P.underlying t = some (.array n e)) (he : P.underlying e = some (.int k)) (hc : P.cellsOf e = 1) (hct : P.cellsOf t = n) (h : DataW.trod enc P w base spare held m t cs = some y) : ∃ row, RRow k n cs row := by
  obtain ⟨xs, q, _, _, hl, hx, hel⟩ := DataW.trod_array ht h
  have each : ∀ i, i < n → ∃ a : Int, cs[i]? = some (.int k a) ∧ (Lit.int k a).wf = true := by
    intro i hi
    have h1 := hel i hi
    rw [List.getElem?_eq_getElem (by omega), hc, Nat.mul_one] at h1
    obtain ⟨a, ha, _, hw⟩ := DataW.trod_int he h1
    refine ⟨a, ?_, hw⟩
    have h2 : ((cs.drop i).take 1)[0]? = some (.int k a) := by rw [ha]; rfl
    simpa using h2
  obtain ⟨row, hr1, hr2⟩ := list_of_each each
  refine ⟨row, List.ext_getElem? fun i => ?_, hr1, fun x hx => ?_⟩
  · by_cases hi : i < row.length
    · rw [(hr2 i hi).1, List.getElem?_map, List.getElem?_eq_getElem hi]; rfl
    · rw [List.getElem?_eq_none (by omega), List.getElem?_eq_none (by simp; omega)]
  · obtain ⟨i, hi, rfl⟩ := List.getElem_of_mem hx
    exact (hr2 i hi).2

/-- x[i] of an array of numbers by value. -/
theorem run_index_arr {P : Program} {t e : TypeId} {n : Nat} {k : IntKind} (ht : P.underlying t = some (.array n e)) (he : P.underlying e = some (.int k)) (hs : (P.info? e).map (·.size) = some 1)
    (xs : List Int) (hl : xs.length = n) (i : Nat) (hi : i < n) (w : World) : (Instr.index t (.agg (xs.map (Value.int k)).toArray) (.int .i64 i)).run P w = .ok (.int k (xs.getD i 0)) w := by
  cases hq : P.info? e with
  | none => simp [hq] at hs
  | some inf =>
    have hs1 : inf.size = 1 := by simpa [hq] using hs
    have hil : i < xs.length := by omega
    simp [Instr.index, asIntOf, run_underlying ht, run_underlying he, sizeOf, typeInfo, hq, hs1, part, isAgg, hi, hil]
end Go.Proofs.Ytahoapgmiecphaa

/-
  What a call owns, as a list of assertions apart from each other. (A helper text; it claims nothing of the program.)
-/
namespace Go.Proofs.Ytahoapgmiecphaa
set_option linter.unusedVariables false
open Go.ChangeShapes Go.WideShapes Go.ChangeAt Go.RowKit

/-- An assertion on some blocks of memory. -/
structure Asrt where
  fp : List Nat
  ok : World → Prop
  loc : ∀ w w' : World, (∀ b ∈ fp, w'.heap[b]? = w.heap[b]?) → ok w → ok w'

/-- Since w0 the call has made what μ says; all else is as it was. -/
structure St (w0 w : World) (μ : List Asrt) : Prop where
  bel : Below w0.heap.size w0 w
  ok : ∀ A ∈ μ, A.ok w
  lo : ∀ A ∈ μ, ∀ b ∈ A.fp, w0.heap.size ≤ b ∧ b < w.heap.size
  sep : (μ.flatMap (·.fp)).Nodup

theorem Own.loc {w w' : World} {B : Nat} {e : TypeId} {size : Nat} {v : Value} {xs : List Value} (h : Own w B e size v xs) (hb : ∀ b ∈ v.ownBlock.toList, w'.heap[b]? = w.heap[b]?) : Own w' B e size v xs := by
  refine ⟨h.1, ?_⟩
  rcases h.2 with h2 | ⟨g, cap, cur, rfl, hB, hg, hn, hc, hcs, htk⟩
  · exact .inl h2
  · exact .inr ⟨g, cap, cur, rfl, hB, by rw [hb g (by simp [Value.ownBlock])]; exact hg, hn, hc, hcs, htk⟩

/-- A slice of its own. -/
def aOwn (e : TypeId) (size : Nat) (v : Value) (xs : List Value) : Asrt := ⟨v.ownBlock.toList, fun w => Own w 0 e size v xs, fun _ _ hb h => h.loc hb⟩
/-- A block of its own. -/
def aCel (g : Nat) (T : TypeId) (cs : Array Value) : Asrt := ⟨[g], fun w => w.heap[g]? = some (.cells cs T (0, 0)), fun _ _ hb h => by rw [hb g (by simp)]; exact h⟩

theorem Own.base {w : World} {B B' : Nat} {e : TypeId} {size : Nat} {v : Value} {xs : List Value} (h : Own w B e size v xs) (hb : ∀ b ∈ v.ownBlock.toList, B' ≤ b) : Own w B' e size v xs := by
  refine ⟨h.1, ?_⟩
  rcases h.2 with h2 | ⟨g, cap, cur, rfl, hB, hg, hn, hc, hcs, htk⟩
  · exact .inl h2
  · exact .inr ⟨g, cap, cur, rfl, hb g (by simp [Value.ownBlock]), hg, hn, hc, hcs, htk⟩

section
variable {w0 w w' : World} {μ ν : List Asrt} {A A' B C D : Asrt}
theorem St.init (w : World) : St w w [] := ⟨Below.refl _ _, fun _ h => (by cases h), fun _ h => (by cases h), (by simp)⟩
theorem St.call (h : St w0 w μ) (hb : Below w.heap.size w w') : St w0 w' μ := by
  refine ⟨h.bel.trans (hb.mono h.bel.size), fun A hA => A.loc w w' (fun b hb1 => hb.block b (h.lo A hA b hb1).2) (h.ok A hA), fun A hA b hb1 => ⟨(h.lo A hA b hb1).1, Nat.lt_of_lt_of_le (h.lo A hA b hb1).2 hb.size⟩, h.sep⟩
theorem St.drew (h : St w0 w μ) : St w0 w.drew μ := ⟨h.bel.drew, fun A hA => A.loc w _ (fun _ _ => rfl) (h.ok A hA), h.lo, h.sep⟩
theorem St.drewN (h : St w0 w μ) (n : Nat) : St w0 (w.drewN n) μ := ⟨below_drewN h.bel n, fun A hA => A.loc w _ (fun _ _ => rfl) (h.ok A hA), h.lo, h.sep⟩
theorem St.skip (h : St w0 w μ) (o : Obj) : St w0 (w.alloc o) μ := h.call ((Below.refl _ _).alloc (Nat.le_refl _) _)
theorem St.perm (h : St w0 w μ) (hp : μ.Perm ν) : St w0 w ν :=
  ⟨h.bel, fun A hA => h.ok A (hp.mem_iff.2 hA), fun A hA => h.lo A (hp.mem_iff.2 hA), ((hp.flatMap_right _).nodup_iff).1 h.sep⟩
theorem St.get2 (h : St w0 w (A :: B :: μ)) : St w0 w (B :: A :: μ) := h.perm (List.Perm.swap _ _ _)
theorem St.get3 (h : St w0 w (A :: B :: C :: μ)) : St w0 w (C :: A :: B :: μ) := h.perm (((List.Perm.swap _ _ _).cons _).trans (List.Perm.swap _ _ _))
theorem St.get4 (h : St w0 w (A :: B :: C :: D :: μ)) : St w0 w (D :: A :: B :: C :: μ) := h.perm (((((List.Perm.swap _ _ _).cons _).cons _).trans ((List.Perm.swap _ _ _).cons _)).trans (List.Perm.swap _ _ _))
theorem St.drop (h : St w0 w (A :: μ)) : St w0 w μ :=
  ⟨h.bel, fun B hB => h.ok B (.tail _ hB), fun B hB => h.lo B (.tail _ hB), by have := h.sep; simp only [List.flatMap_cons] at this; exact (List.nodup_append.1 this).2.1⟩
/-- One assertion gives way to another one: the world turns only where the first one looks, and behind the end. -/
theorem St.upd (h : St w0 w (A :: μ)) (hos : w'.os = w.os) (htape : w'.tape = w.tape) (hout : w'.output = w.output) (hsz : w.heap.size ≤ w'.heap.size)
    (hblk : ∀ b, b < w.heap.size → b ∉ A.fp → w'.heap[b]? = w.heap[b]?) (hok : A'.ok w') (hfp : ∀ b ∈ A'.fp, b ∈ A.fp ∨ (w.heap.size ≤ b ∧ b < w'.heap.size)) (hnd : A'.fp.Nodup) : St w0 w' (A' :: μ) := by
  have hsep := h.sep
  simp only [List.flatMap_cons, List.nodup_append] at hsep
  obtain ⟨hs1, hs2, hs3⟩ := hsep
  have hlo := h.lo A (.head _)
  refine ⟨⟨hos.trans h.bel.os, htape.trans h.bel.tape, hout.trans h.bel.output, Nat.le_trans h.bel.size hsz, fun k hk => ?_⟩, fun B hB => ?_, fun B hB b hb => ?_, ?_⟩
  · rw [hblk k (Nat.lt_of_lt_of_le hk h.bel.size) (fun hm => by have := (hlo k hm).1; omega), h.bel.block k hk]
  · rcases List.mem_cons.1 hB with rfl | hB
    · exact hok
    · refine B.loc w w' (fun b hb => ?_) (h.ok B (.tail _ hB))
      refine hblk b (h.lo B (.tail _ hB) b hb).2 (fun hm => ?_)
      exact hs3 b hm b (List.mem_flatMap.2 ⟨B, hB, hb⟩) rfl
  · rcases List.mem_cons.1 hB with rfl | hB
    · rcases hfp b hb with h1 | h1
      · exact ⟨(hlo b h1).1, Nat.lt_of_lt_of_le (hlo b h1).2 hsz⟩
      · exact ⟨Nat.le_trans h.bel.size h1.1, h1.2⟩
    · exact ⟨(h.lo B (.tail _ hB) b hb).1, Nat.lt_of_lt_of_le (h.lo B (.tail _ hB) b hb).2 hsz⟩
  · simp only [List.flatMap_cons, List.nodup_append]
    refine ⟨hnd, hs2, fun b hb c hc e => ?_⟩
    subst e
    rcases hfp b hb with h1 | h1
    · exact hs3 b h1 b hc rfl
    · obtain ⟨B, hB, hb2⟩ := List.mem_flatMap.1 hc
      have := (h.lo B (.tail _ hB) b hb2).2
      omega
/-- A call's own result is the caller's now. -/
theorem St.push (h : St w0 w μ) (hb : Below w.heap.size w w') (hok : A.ok w') (hfp : ∀ b ∈ A.fp, w.heap.size ≤ b ∧ b < w'.heap.size) (hnd : A.fp.Nodup) : St w0 w' (A :: μ) := by
  have h2 := h.call hb
  refine ⟨h2.bel, fun B hB => ?_, fun B hB b hb1 => ?_, ?_⟩
  · rcases List.mem_cons.1 hB with rfl | hB
    · exact hok
    · exact h2.ok B hB
  · rcases List.mem_cons.1 hB with rfl | hB
    · exact ⟨Nat.le_trans h.bel.size (hfp b hb1).1, (hfp b hb1).2⟩
    · exact h2.lo B hB b hb1
  · simp only [List.flatMap_cons, List.nodup_append]
    refine ⟨hnd, h.sep, fun b hb1 c hc e => ?_⟩
    subst e
    obtain ⟨B, hB, hb2⟩ := List.mem_flatMap.1 hc
    have := (h.lo B hB b hb2).2
    have := (hfp b hb1).1
    omega
theorem St.alloc (h : St w0 w μ) (cs : Array Value) (T : TypeId) : St w0 (w.alloc (.cells cs T)) (aCel w.heap.size T cs :: μ) :=
  h.push ((Below.refl _ _).alloc (Nat.le_refl _) _) (heap_alloc_new _ _) (fun b hb => by simp [aCel] at hb; subst hb; simp) (by simp [aCel])
end

section
variable {w0 w w' : World} {μ : List Asrt} {e : TypeId} {size : Nat} {v v' : Value} {xs ys : List Value}
theorem nodup_ob (v : Value) : v.ownBlock.toList.Nodup := by cases v.ownBlock <;> simp
theorem Own.fp {B : Nat} (h : Own w B e size v xs) : ∀ b ∈ v.ownBlock.toList, B ≤ b ∧ b < w.heap.size := fun b hb => h.lt b (by simpa using hb)
theorem Own.zero {B : Nat} (h : Own w B e size v xs) : Own w 0 e size v xs := h.base fun _ _ => Nat.zero_le _
theorem Own.addr {B : Nat} {ao : Option Addr} {n cap : Nat} (h : Own w B e size (.slice ao n cap) xs) (hp : 0 < xs.length) : ∃ g, ao = some ⟨g, 0, none⟩ := by
  rcases h.shape with ⟨_, h2⟩ | ⟨g, c, h1, _⟩
  · subst h2; simp at hp
  · simp only [Value.slice.injEq] at h1; exact ⟨g, h1.1⟩
/-- A call's own slice. -/
theorem St.pushOwn (h : St w0 w μ) (hb : Below w.heap.size w w') (ho : Own w' w.heap.size e size v xs) : St w0 w' (aOwn e size v xs :: μ) :=
  h.push hb ho.zero (fun b hb => ho.fp b hb) (nodup_ob v)
theorem St.nilOwn (h : St w0 w μ) (e : TypeId) (size : Nat) : St w0 w (aOwn e size (.slice none 0 0) [] :: μ) :=
  h.push (Below.refl _ _) (Own.nil _ _ _ _) (fun b hb => by simp [aOwn, Value.ownBlock] at hb) (by simp [aOwn, Value.ownBlock])
theorem St.own (h : St w0 w (aOwn e size v xs :: μ)) : Own w w0.heap.size e size v xs := (h.ok _ (.head _)).base fun b hb => (h.lo _ (.head _) b hb).1
/-- Behind an append. -/
theorem St.grown (h : St w0 w (aOwn e size v xs :: μ)) (hg : w.grownBy w' v.ownBlock) (ho : Own w' w0.heap.size e size v' ys) (hn : ∀ k, v'.ownBlock = some k → v.ownBlock = some k ∨ w.heap.size ≤ k) : St w0 w' (aOwn e size v' ys :: μ) := by
  refine h.upd hg.os hg.tape hg.output hg.size (fun b hb hm => ?_) ho.zero (fun b hb => ?_) (nodup_ob v')
  · exact hg.block b hb fun e => hm (by simp [aOwn, ← e])
  · have hb' : v'.ownBlock = some b := by simpa [aOwn] using hb
    rcases hn b hb' with h1 | h1
    · exact .inl (by simpa [aOwn] using h1)
    · exact .inr ⟨h1, (ho.lt b hb').2⟩
theorem St.setOwn {α : Type} {f : α → Value} (hf : ∀ a, (f a).cells = #[f a]) {g n cap : Nat} {l : List α} (h : St w0 w (aOwn e 1 (.slice (some ⟨g, 0, none⟩) n cap) (l.map f) :: μ)) (q : Nat) (a : α) :
    St w0 (w.setCell ⟨g, q, none⟩ (f a)) (aOwn e 1 (.slice (some ⟨g, 0, none⟩) n cap) ((l.set q a).map f) :: μ) := by
  refine h.upd rfl rfl rfl (by simp) (fun b hb hm => ?_) (Own.set hf (h.ok _ (.head _)) q a) (fun b hb => .inl hb) (by simp [aOwn, Value.ownBlock])
  exact heap_setCell_other _ _ _ _ (fun e => hm (by simp [aOwn, Value.ownBlock, e]))
theorem St.cellOwn {α : Type} {f : α → Value} (hf : ∀ a, (f a).cells = #[f a]) {g n cap : Nat} {l : List α} (h : St w0 w (aOwn e 1 (.slice (some ⟨g, 0, none⟩) n cap) (l.map f) :: μ)) (i : Nat) (hi : i < l.length) (d : α) :
    w.cell? ⟨g, i, none⟩ = some (f (l.getD i d)) ∧ w.frozen? ⟨g, i, none⟩ = false := by
  have := Own.cellAt hf (h.ok _ (.head _)) i hi d
  exact ⟨this.1, this.2.1⟩
end

/-- Where an append puts its row: where it was, or behind the end. -/
theorem run_append_where {P : Program} {w : World} {t ty e : TypeId} {size bytes : Nat} (E : ET P t e size bytes) {v : Value} {xs : List Value} (hown : Own w 0 e size v xs)
    (a : Addr) (m c : Nat) (news : List Value) (hl : news.length = m * size) (hnews : ∀ j u, news[j]? = some u → w.cell? (a.add j) = some u) (h1 : ∀ u ∈ news, u.oneCell' = true)
    (h63 : xs.length + m ≤ maxLen) (hbytes : (xs.length + m) * bytes ≤ 140737488355328) :
    ∃ v' w', (Builtin.append_ #[t, t] ty #[v, .slice (some a) m c]).run P w = .ok v' w' ∧ w'.ownsRow 0 e size v' (xs.length + m) (cellsOf xs ++ news) ∧ w.grownBy w' v.ownBlock ∧ (∀ k, v'.ownBlock = some k → v.ownBlock = some k ∨ w.heap.size ≤ k) ∧ (0 < m → ∃ g cap, v' = .slice (some ⟨g, 0, none⟩) (xs.length + m) cap) := by
  obtain ⟨ht, ⟨i, z, hi, hz, hsize, hby, hzs⟩, hp⟩ := E
  obtain ⟨v', w', hr, h2, h3, h4⟩ := run_append_own (P := P) w 0 t ty e i z size bytes ht hi hz hsize hby hzs hp v xs.length (cellsOf xs) hown a m c news hl hnews h1 h63 hbytes (Nat.zero_le _)
  refine ⟨v', w', hr, h2, h3, ?_, ?_⟩
  · unfold maxLen at h63
    subst hsize hby
    rcases hown.2 with ⟨rfl, hn⟩ | ⟨g, cap, cur, rfl, hbg, hg, hnc, hcm, hcs, htake⟩
    · by_cases hm : m = 0
      · subst hm
        have := h4.2 ⟨rfl, rfl⟩
        subst this
        intro k hk; cases hk
      · have hr2 := run_append_nil (P := P) w t ty e i z ht hi hz a m c news hl hnews (by omega) (by omega) (by rw [hn] at hbytes; simp only [Nat.zero_add] at hbytes; omega)
        rw [hr2] at hr
        cases hr
        intro k hk
        cases hk
        exact .inr (Nat.le_refl _)
    · by_cases hroom : xs.length + m ≤ cap
      · have hfit : xs.length * i.size + news.length ≤ cur.size := by rw [hl, hcs, ← Nat.add_mul]; exact Nat.mul_le_mul_right _ hroom
        have hr2 := run_append_room (P := P) w t ty e i ht hi g xs.length cap cur hg a m c news hl hnews h1 hroom hfit
        rw [hr2] at hr
        cases hr
        intro k hk
        exact .inl hk
      · have holds : ∀ j u, (cellsOf xs)[j]? = some u → w.cell? ((⟨g, 0, none⟩ : Addr).add j) = some u := World.ownsRow.cells (g := g) hown rfl
        have hr2 := run_append_grow (P := P) w t ty e i z ht hi hz ⟨g, 0, none⟩ xs.length cap (cellsOf xs) hown.1 holds a m c news hl hnews (by omega) (by omega) (growslice_fits (by omega) hbytes)
        rw [hr2] at hr
        cases hr
        intro k hk
        cases hk
        exact .inr (Nat.le_refl _)
  · intro hm
    rcases h2.2 with ⟨h5, h6⟩ | ⟨g, cap, cur, h5, _⟩
    · omega
    · exact ⟨g, cap, h5⟩

theorem cellsOf_len {size : Nat} {us : List Value} (h : ∀ u ∈ us, u.cells.size = size) : (cellsOf us).length = us.length * size := by
  induction us with
  | nil => simp [cellsOf]
  | cons u us ih =>
    have h1 := h u (.head _)
    have h2 := ih fun x hx => h x (.tail _ hx)
    simp only [cellsOf, List.flatMap_cons, List.length_append, Array.length_toList, List.length_cons] at h2 ⊢
    rw [h1, h2, Nat.add_mul]; omega

theorem cellsOf_get {size : Nat} {us : List Value} (h : ∀ u ∈ us, u.cells.size = size) (i : Nat) (hi : i < us.length) (j : Nat) (hj : j < size) : (cellsOf us)[i * size + j]? = (us[i].cells.toList)[j]? := by
  induction us generalizing i with
  | nil => simp at hi
  | cons u us ih =>
    have h1 := h u (.head _)
    simp only [cellsOf, List.flatMap_cons]
    cases i with
    | zero =>
      rw [Nat.zero_mul, Nat.zero_add, List.getElem?_append_left (by rw [Array.length_toList]; omega)]
      rfl
    | succ i =>
      rw [List.getElem?_append_right (by rw [Array.length_toList, h1, Nat.add_mul]; omega), Array.length_toList, h1, show (i + 1) * size + j - size = i * size + j by rw [Nat.add_mul]; omega]
      exact ih (fun x hx => h x (.tail _ hx)) i (by simpa using hi)

/-- append(s, us...): at least one element; at the operation. -/
theorem St.wpApp {P : Program} {w0 w : World} {μ : List Asrt} {t e : TypeId} {size bytes : Nat} (E : ET P t e size bytes) {o : Oper} {a : Act} {K : Act → World → Prop} {Q : Exit → Act → World → Prop}
    (s x : Operand) (ho : o.op = .call { callee := .builtin .append, args := #[s, x], argTypes := #[t, t] }) {v : Value} {xs : List Value} (hs : a.eval s = v)
    (h : St w0 w (aOwn e size v xs :: μ)) (us : List Value) (ad : Addr) (m c : Nat) (hx : a.eval x = .slice (some ad) m c) (hm : m = us.length)
    (hu : ∀ j q, (cellsOf us)[j]? = some q → w.cell? (ad.add j) = some q) (hsz : ∀ u ∈ us, u.cells.size = size) (h1 : ∀ q ∈ cellsOf us, q.oneCell' = true) (hpos : 0 < m)
    (hlen : xs.length + m ≤ maxLen) (hroom : (xs.length + m) * bytes ≤ 140737488355328)
    (hK : ∀ g' n' cap w', St w0 w' (aOwn e size (.slice (some ⟨g', 0, none⟩) n' cap) (xs ++ us) :: μ) → K (a.put o.dst (.slice (some ⟨g', 0, none⟩) n' cap)) w') : o.wp P a w K Q := by
  subst hm
  obtain ⟨v', w', hr, h2, h3, h4, h5⟩ := run_append_where (ty := o.type) E (v := v) (xs := xs) (h.ok _ (.head _)) ad us.length c (cellsOf us) (cellsOf_len hsz) hu h1 hlen hroom
  obtain ⟨g, cap, rfl⟩ := h5 hpos
  unfold Oper.wp execOp
  simp only [ho, resolve, invoke, builtin, Sem.run_bind, Sem.run_pure, Result.andThen_ok, List.map_toArray, List.map_cons, List.map_nil, hs, hx, hr]
  refine hK g _ cap w' ?_
  have ho2 : Own w' 0 e size (.slice (some ⟨g, 0, none⟩) (xs.length + us.length) cap) (xs ++ us) := by
    unfold Own
    rw [cellsOf_append, List.length_append]
    exact h2
  refine h.upd h3.os h3.tape h3.output h3.size (fun b hb hm => ?_) ho2 (fun b hb => ?_) (by simp [aOwn, Value.ownBlock])
  · exact h3.block b hb fun e => hm (by simp [aOwn, ← e])
  · have hb' : (Value.slice (some ⟨g, 0, none⟩) (xs.length + us.length) cap).ownBlock = some b := by simpa [aOwn] using hb
    rcases h4 b hb' with h6 | h6
    · exact .inl (by simpa [aOwn] using h6)
    · exact .inr ⟨h6, (ho2.lt b hb').2⟩

/-- append(s, us...): at least one element. -/
theorem St.app {P : Program} {w0 w : World} {μ : List Asrt} {t e : TypeId} {size bytes : Nat} (E : ET P t e size bytes) {ops : Array Oper} {rest : List Oper} {o : Oper} {a : Act} {Q : Exit → Act → World → Prop}
    (hgd : o.guard = none) (s x : Operand) (ho : o.op = .call { callee := .builtin .append, args := #[s, x], argTypes := #[t, t] }) {v : Value} {xs : List Value} (hs : a.eval s = v)
    (h : St w0 w (aOwn e size v xs :: μ)) (us : List Value) (ad : Addr) (m c : Nat) (hx : a.eval x = .slice (some ad) m c) (hm : m = us.length)
    (hu : ∀ j q, (cellsOf us)[j]? = some q → w.cell? (ad.add j) = some q) (hsz : ∀ u ∈ us, u.cells.size = size) (h1 : ∀ q ∈ cellsOf us, q.oneCell' = true) (hpos : 0 < m)
    (hlen : xs.length + m ≤ maxLen) (hroom : (xs.length + m) * bytes ≤ 140737488355328)
    (hK : ∀ g' n' cap w', St w0 w' (aOwn e size (.slice (some ⟨g', 0, none⟩) n' cap) (xs ++ us) :: μ) → wpList P ops Q rest (a.put o.dst (.slice (some ⟨g', 0, none⟩) n' cap)) w') : wpList P ops Q (o :: rest) a w :=
  wpList_plain hgd fun K hK' => St.wpApp E s x ho hs h us ad m c hx hm hu hsz h1 hpos hlen hroom fun g' n' cap w' h2 => hK' _ _ (hK g' n' cap w' h2)

/-- append(s, u). -/
theorem St.app1 {P : Program} {w0 w : World} {μ : List Asrt} {t e : TypeId} {size bytes : Nat} (E : ET P t e size bytes) {ops : Array Oper} {rest : List Oper} {o : Oper} {a : Act} {Q : Exit → Act → World → Prop}
    (hgd : o.guard = none) (s x : Operand) (ho : o.op = .call { callee := .builtin .append, args := #[s, x], argTypes := #[t, t] }) {v : Value} {xs : List Value} (hs : a.eval s = v)
    (h : St w0 w (aOwn e size v xs :: μ)) (u : Value) (g c : Nat) (hx : a.eval x = .slice (some ⟨g, 0, none⟩) 1 c)
    (hu : ∀ j q, u.cells.toList[j]? = some q → w.cell? ⟨g, j, none⟩ = some q) (hsz : u.cells.size = size) (h1 : ∀ q ∈ u.cells.toList, q.oneCell' = true)
    (hlen : xs.length + 1 ≤ maxLen) (hroom : (xs.length + 1) * bytes ≤ 140737488355328)
    (hK : ∀ g' n' cap w', St w0 w' (aOwn e size (.slice (some ⟨g', 0, none⟩) n' cap) (xs ++ [u]) :: μ) → wpList P ops Q rest (a.put o.dst (.slice (some ⟨g', 0, none⟩) n' cap)) w') : wpList P ops Q (o :: rest) a w := by
  refine St.app E hgd s x ho hs h [u] ⟨g, 0, none⟩ 1 c hx rfl ?_ (by simpa using hsz) (by rw [oneCells]; exact h1) (by omega) hlen hroom hK
  intro j q hq
  have hadd : (⟨g, 0, none⟩ : Addr).add j = ⟨g, j, none⟩ := by unfold Addr.add; split <;> simp_all
  rw [hadd]
  rw [oneCells] at hq
  exact hu j q hq

/-- append(s, u), u laid into a new block just before. -/
theorem St.app1n {P : Program} {w0 W : World} {μ : List Asrt} {t e : TypeId} {size bytes : Nat} (E : ET P t e size bytes) {ops : Array Oper} {rest : List Oper} {o : Oper} {a : Act} {Q : Exit → Act → World → Prop} {cs : Array Value} {T : TypeId}
    (hgd : o.guard = none) (s x : Operand) (ho : o.op = .call { callee := .builtin .append, args := #[s, x], argTypes := #[t, t] }) {v : Value} {xs : List Value} (hs : a.eval s = v)
    (h : St w0 W (aOwn e size v xs :: μ)) (u : Value) (hcs : cs = u.cells) (g c : Nat) (hx : a.eval x = .slice (some ⟨g, 0, none⟩) 1 c) (hg : g = W.heap.size)
    (hsz : u.cells.size = size) (h1 : ∀ q ∈ u.cells.toList, q.oneCell' = true) (hlen : xs.length + 1 ≤ maxLen) (hroom : (xs.length + 1) * bytes ≤ 140737488355328)
    (hK : ∀ g' n' cap w', St w0 w' (aOwn e size (.slice (some ⟨g', 0, none⟩) n' cap) (xs ++ [u]) :: μ) → wpList P ops Q rest (a.put o.dst (.slice (some ⟨g', 0, none⟩) n' cap)) w') : wpList P ops Q (o :: rest) a (W.alloc (.cells cs T)) := by
  subst hg hcs
  exact St.app1 E hgd s x ho hs (h.skip _) u _ c hx (fun j q hq => cells_lit _ _ j q hq) hsz h1 hlen hroom hK

/-- The same at a step of a region that draws its order. -/
theorem St.step1n {P : Program} {w0 W : World} {μ : List Asrt} {t e : TypeId} {size bytes : Nat} (E : ET P t e size bytes) {ops : Array Oper} {o : Oper} {a : Act} {K : Act → World → Prop} {Q : Exit → Act → World → Prop} {cs : Array Value} {T : TypeId} {EE : Prop}
    (hgd : o.guard = none) (s x : Operand) (ho : o.op = .call { callee := .builtin .append, args := #[s, x], argTypes := #[t, t] }) {v : Value} {xs : List Value} (hs : a.eval s = v)
    (h : St w0 W (aOwn e size v xs :: μ)) (u : Value) (hcs : cs = u.cells) (g c : Nat) (hx : a.eval x = .slice (some ⟨g, 0, none⟩) 1 c) (hg : g = W.heap.size)
    (hsz : u.cells.size = size) (h1 : ∀ q ∈ u.cells.toList, q.oneCell' = true) (hlen : xs.length + 1 ≤ maxLen) (hroom : (xs.length + 1) * bytes ≤ 140737488355328)
    (hK : ∀ g' n' cap w', St w0 w' (aOwn e size (.slice (some ⟨g', 0, none⟩) n' cap) (xs ++ [u]) :: μ) → K (a.put o.dst (.slice (some ⟨g', 0, none⟩) n' cap)) w') :
    if Region.wanted o (yielded ops a.tmps) = true then Oper.wp P o a (W.alloc (.cells cs T)) K Q else EE := by
  subst hg hcs
  have hw : Region.wanted o (yielded ops a.tmps) = true := by simp [Region.wanted, hgd]
  rw [if_pos hw]
  refine St.wpApp E s x ho hs (h.skip _) [u] ⟨W.heap.size, 0, none⟩ 1 c hx rfl (fun j q hq => ?_) (by simpa using hsz) (by rw [oneCells]; exact h1) (by omega) hlen hroom hK
  have hadd : (⟨W.heap.size, 0, none⟩ : Addr).add j = ⟨W.heap.size, j, none⟩ := by unfold Addr.add; split <;> simp_all
  rw [hadd]
  rw [oneCells] at hq
  exact cells_lit _ _ j q hq

theorem St.celAt {w0 w : World} {μ : List Asrt} {g : Nat} {T : TypeId} {cs : Array Value} (h : St w0 w (aCel g T cs :: μ)) {i : Nat} {v : Value} (hi : cs[i]? = some v) : w.cell? ⟨g, i, none⟩ = some v := by
  have := h.ok _ (.head _)
  simp only [aCel] at this
  simp [World.cell?, this, hi]
theorem St.celFree {w0 w : World} {μ : List Asrt} {g : Nat} {T : TypeId} {cs : Array Value} (h : St w0 w (aCel g T cs :: μ)) (i : Nat) : w.frozen? ⟨g, i, none⟩ = false :=
  frozen_of_row _ _ _ _ _ (h.ok _ (.head _))
theorem St.setCel {w0 w : World} {μ : List Asrt} {g : Nat} {T : TypeId} {cs : Array Value} (h : St w0 w (aCel g T cs :: μ)) (i : Nat) (v : Value) : St w0 (w.setCell ⟨g, i, none⟩ v) (aCel g T (cs.setIfInBounds i v) :: μ) := by
  refine h.upd rfl rfl rfl (by simp) (fun b hb hm => ?_) (heap_setCell_same _ _ _ _ _ _ (h.ok _ (.head _))) (fun b hb => .inl hb) (by simp [aCel])
  exact heap_setCell_other _ _ _ _ (fun e => hm (by simp [aCel, e]))
end Go.Proofs.Ytahoapgmiecphaa

/-
  How cells read as plain data, type by type; what came in, opened. (A helper text; it claims nothing of the program.)
-/
namespace Go.Proofs.Ytahoapgmiecphaa
set_option linter.unusedVariables false
open Go.ChangeShapes Go.WideShapes Go.ChangeAt Go.RowKit

/-- 'size' cells read as something of α, looking only into blocks of F. -/
structure Enc (α : Type) where
  size : Nat
  R : (Nat → Prop) → World → List Value → α → Prop
  len : ∀ {F w cs a}, R F w cs a → cs.length = size
  mono : ∀ {F F' : Nat → Prop} {w w' : World} {cs a}, R F w cs a → (∀ b, F b → F' b) → (∀ b, F b → w'.heap[b]? = w.heap[b]?) → R F' w' cs a

theorem cell_of_heap {w w' : World} {b o : Nat} (h : w'.heap[b]? = w.heap[b]?) : w'.cell? ⟨b, o, none⟩ = w.cell? ⟨b, o, none⟩ := World.cell?_of_block (w := w) h
theorem frozen_of_heap {w w' : World} {b o : Nat} (h : w'.heap[b]? = w.heap[b]?) : w'.frozen? ⟨b, o, none⟩ = w.frozen? ⟨b, o, none⟩ := World.frozen?_of_block (w := w) h

namespace Enc
def int (k : IntKind) : Enc Int where
  size := 1
  R := fun _ _ cs n => cs = [.int k n] ∧ (Lit.int k n).wf = true
  len := fun h => by rw [h.1]; rfl
  mono := fun h _ _ => h
def bool : Enc Bool where
  size := 1
  R := fun _ _ cs b => cs = [.bool b]
  len := fun h => by rw [h]; rfl
  mono := fun h _ _ => h
def str : Enc ByteArray where
  size := 1
  R := fun _ _ cs s => cs = [.string s] ∧ s.size ≤ 140737488355328
  len := fun h => by rw [h.1]; rfl
  mono := fun h _ _ => h
/-- An array of n numbers. -/
def row (k : IntKind) (n : Nat) : Enc (List Int) where
  size := n
  R := fun _ _ cs l => cs = l.map (Value.int k) ∧ l.length = n ∧ ∀ x ∈ l, (Lit.int k x).wf = true
  len := fun h => by rw [h.1, List.length_map, h.2.1]
  mono := fun h _ _ => h
def prod {α β : Type} (E : Enc α) (E' : Enc β) : Enc (α × β) where
  size := E.size + E'.size
  R := fun F w cs x => ∃ c1 c2, cs = c1 ++ c2 ∧ E.R F w c1 x.1 ∧ E'.R F w c2 x.2
  len := by rintro F w cs a ⟨c1, c2, rfl, h1, h2⟩; rw [List.length_append, E.len h1, E'.len h2]
  mono := by
    rintro F F' w w' cs a ⟨c1, c2, rfl, h1, h2⟩ hF hb
    exact ⟨c1, c2, rfl, E.mono h1 hF hb, E'.mono h2 hF hb⟩
/-- A slice, its elements 'bytes' bytes each. -/
def sl {α : Type} (E : Enc α) (bytes : Nat) : Enc (List α) where
  size := 1
  R := fun F w cs l => ∃ (ao : Option Addr) (b off cap : Nat), cs = [.slice ao l.length cap] ∧ l.length ≤ cap ∧ cap ≤ maxLen ∧ (l.length : Int) * bytes ≤ 140737488355328 ∧ (ao = none → cap = 0) ∧
    (0 < l.length → ao = some ⟨b, off, none⟩ ∧ b < w.heap.size ∧ F b) ∧
    ∀ i (h : i < l.length), ∃ cs, cs.length = E.size ∧ (∀ j, j < E.size → w.cell? ⟨b, off + i * E.size + j, none⟩ = cs[j]?) ∧ E.R F w cs l[i]
  len := by rintro F w cs a ⟨_, _, _, _, rfl, _⟩; rfl
  mono := by
    rintro F F' w w' cs l ⟨ao, b, off, cap, rfl, h1, h2, h3, h4, h5, h6⟩ hF hb
    refine ⟨ao, b, off, cap, rfl, h1, h2, h3, h4, fun hl => ?_, fun i hi => ?_⟩
    · obtain ⟨g1, g2, g3⟩ := h5 hl
      refine ⟨g1, ?_, hF _ g3⟩
      have := hb b g3
      rw [Array.getElem?_eq_getElem g2] at this
      exact (Array.getElem?_eq_some_iff.1 this).1
    · obtain ⟨c, g1, g2, g3⟩ := h6 i hi
      refine ⟨c, g1, fun j hj => ?_, E.mono g3 hF hb⟩
      rw [cell_of_heap (hb b (h5 (by omega)).2.2)]
      exact g2 j hj
end Enc

/-- The value v reads as a. -/
def Rd {α : Type} (E : Enc α) (F : Nat → Prop) (w : World) (v : Value) (a : α) : Prop := E.R F w v.cells.toList a
theorem Rd.mono {α : Type} {E : Enc α} {F F' : Nat → Prop} {w w' : World} {v : Value} {a : α} (h : Rd E F w v a) (hF : ∀ b, F b → F' b) (hb : ∀ b, F b → w'.heap[b]? = w.heap[b]?) : Rd E F' w' v a := E.mono h hF hb
theorem Rd.below {α : Type} {E : Enc α} {F : Nat → Prop} {w w' : World} {v : Value} {a : α} {B : Nat} (h : Rd E F w v a) (hb : Below B w w') (hF : ∀ b, F b → b < B) : Rd E F w' v a :=
  E.mono h (fun _ h => h) fun b h => hb.block b (hF b h)

/-! What comes in. -/
section
variable {H : Type}
def Light (P : Program) (t : TypeId) (d : DataW H) : Prop := ∀ n ∈ d.weights P t, n ≤ reachBytes
end
/-- Whatever is read at type t reads as E says. -/
structure Opens (P : Program) (t : TypeId) {α : Type} (E : Enc α) : Prop where
  h : ∀ {H : Type} {enc : TypeId × Value → H} {w : World} {base : Nat} {spare : Nat → Bool} {held : Bool} {fuel : Nat} {cs : List Value} {x : DataW H × List MemPlace},
    DataW.trod enc P w base spare held fuel t cs = some x → Light P t x.1 → ∃ a, E.R (fun b => b < w.heap.size) w cs a

theorem Opens.int {P : Program} {t : TypeId} {k : IntKind} (ht : P.underlying t = some (.int k)) : Opens P t (Enc.int k) := by
  constructor
  intro H enc w base spare held fuel cs x h _
  obtain ⟨m, h1, _, h2⟩ := DataW.trod_int ht h
  exact ⟨m, h1, h2⟩
theorem Opens.bool {P : Program} {t : TypeId} (ht : P.underlying t = some .bool) : Opens P t Enc.bool := by
  constructor
  intro H enc w base spare held fuel cs x h _
  obtain ⟨m, h1, _⟩ := DataW.trod_bool ht h
  exact ⟨m, h1⟩
theorem Opens.str {P : Program} {t : TypeId} (ht : P.underlying t = some .string) : Opens P t Enc.str := by
  constructor
  intro H enc w base spare held fuel cs x h hl
  obtain ⟨m, h1, h3, h2⟩ := DataW.trod_string ht h
  refine ⟨m, h1, ?_⟩
  have := hl m.size (by rw [h3]; simp [DataW.weights])
  unfold reachBytes at this
  omega
theorem Opens.row {P : Program} {t e : TypeId} {n : Nat} {k : IntKind} (ht : P.underlying t = some (.array n e)) (he : P.underlying e = some (.int k)) (hc : P.cellsOf e = 1) (hct : P.cellsOf t = n) : Opens P t (Enc.row k n) := by
  constructor
  intro H enc w base spare held fuel cs x h _
  exact rRow ht he hc hct h
theorem Opens.sl {P : Program} {t e : TypeId} {α : Type} {E : Enc α} {bytes : Nat} (ht : P.underlying t = some (.slice e)) (hs : P.cellsOf e = E.size) (hp : 0 < E.size) (hby : P.bytesOf e = bytes) (hE : Opens P e E) : Opens P t (Enc.sl E bytes) := by
  constructor
  intro H enc w base spare held fuel cs x h hl
  rcases DataW.trod_slice ht h with ⟨h0, _⟩ | ⟨a, len, cap, elems, rest, n, _, rfl, hx, hb, hlc, hm, hlen, hel, hrl, _⟩
  · subst h0
    exact ⟨[], none, 0, 0, 0, rfl, Nat.le_refl _, by decide, by simp, fun _ => rfl, fun h => by simp at h, fun i hi => by simp at hi⟩
  · subst hby
    obtain ⟨b, off, spot⟩ := a
    have hwt : x.1.weights P t = ((elems.map (·.1)).length + (rest.map (·.1)).length) * P.bytesOf e :: (DataW.weightsAll P e (elems.map (·.1)) ++ DataW.weightsAll P e (rest.map (·.1))) := by
      rw [hx, DataW.weights, ht]
    have hw : (elems.length : Int) * (P.bytesOf e : Int) ≤ 140737488355328 := by
      have := hl (((elems.map (·.1)).length + (rest.map (·.1)).length) * P.bytesOf e) (by rw [hwt]; exact .head _)
      unfold reachBytes at this
      rw [List.length_map, Nat.add_mul] at this
      have h3 := Nat.le_trans (Nat.le_add_right _ _) this
      clear this
      rw [← Int.natCast_mul]
      omega
    have light : ∀ i (hi : i < elems.length), Light P e (elems[i]).1 := by
      intro i hi m hm2
      refine hl m ?_
      rw [hwt]
      refine .tail _ (List.mem_append.2 (.inl ?_))
      have hmem : (elems[i]).1 ∈ elems.map (·.1) := List.mem_map.2 ⟨_, List.getElem_mem hi, rfl⟩
      clear hw hl hel hlen hx hwt
      generalize elems.map (·.1) = L at hmem
      induction L with
      | nil => cases hmem
      | cons d r ih =>
        rw [DataW.weightsAll, List.mem_append]
        rcases List.mem_cons.1 hmem with h | h
        · rw [← h]; exact .inl hm2
        · exact .inr (ih h)
    have each : ∀ i, i < len → ∃ q : α × List Value, (∃ cs', w.cells? base ((⟨b, off, spot⟩ : Addr).add (i * P.cellsOf e)) (P.cellsOf e) = some cs' ∧ q.2 = cs' ∧ E.R (fun b => b < w.heap.size) w cs' q.1) := by
      intro i hi
      have h1 := hel i hi
      rw [List.getElem?_eq_getElem (by omega)] at h1
      obtain ⟨cs', h2, h3⟩ := Option.bind_eq_some_iff.1 h1
      obtain ⟨hbb, hl2, _⟩ := World.cells?_some h2
      obtain ⟨a, ha⟩ := hE.h h3 (light i (by omega))
      exact ⟨(a, cs'), cs', h2, rfl, ha⟩
    obtain ⟨l, hl1, hl2⟩ := list_of_each each
    have spot0 : 0 < len → spot = none ∧ b < w.heap.size := by
      intro hpos
      obtain ⟨cs0, g2, _, _⟩ := hl2 0 (by omega)
      obtain ⟨_, g3, gc⟩ := World.cells?_some g2
      have h0 := gc 0 (by omega)
      rw [List.getElem?_eq_getElem (by omega)] at h0
      have hz : ((⟨b, off, spot⟩ : Addr).add (0 * P.cellsOf e)).add 0 = ⟨b, off, spot⟩ := by simp [Addr.add]
      rw [hz] at h0
      exact ⟨World.cell?_spot h0, World.block_lt_of_cell? w _ h0⟩
    refine ⟨l.map (·.1), some ⟨b, off, spot⟩, b, off, cap, by simp [hl1], by simp [hl1]; omega, hm, ?_, (fun h => by cases h), fun hpos => ?_, fun i hi => ?_⟩
    · rw [List.length_map, hl1, ← hlen]
      exact hw
    · have hi0 : 0 < l.length := by simpa using hpos
      obtain ⟨h1, h2⟩ := spot0 (by omega)
      subst h1
      exact ⟨rfl, h2, h2⟩
    · have hi0 : i < l.length := by simpa using hi
      obtain ⟨cs', h2, h5, h6⟩ := hl2 i hi0
      obtain ⟨_, hl3, hc⟩ := World.cells?_some h2
      obtain ⟨h7, _⟩ := spot0 (by omega)
      subst h7
      refine ⟨cs', by rw [hl3, hs], fun j hj => ?_, by simpa [h5] using h6⟩
      rw [← hs] at hj
      rw [← hc j hj]
      congr 1
      rw [hs]
      unfold Addr.add
      by_cases e1 : i * E.size = 0 <;> by_cases e2 : j = 0 <;> simp [e1, e2]

/-- From field i on (offset o): the rest of a struct. -/
structure OpensFrom (P : Program) (fs : Array Field) (i o : Nat) {α : Type} (E : Enc α) : Prop where
  h : ∀ {H : Type} {enc : TypeId × Value → H} {w : World} {base : Nat} {spare : Nat → Bool} {held : Bool} {m : Nat} {cs : List Value},
    cs.length = o + E.size → (∀ k f, i ≤ k → fs[k]? = some f → ∃ y, DataW.trod enc P w base spare held m f.type ((cs.drop f.offset).take (P.cellsOf f.type)) = some y ∧ Light P f.type y.1) → ∃ a, E.R (fun b => b < w.heap.size) w (cs.drop o) a

theorem OpensFrom.last {P : Program} {fs : Array Field} {i o : Nat} {α : Type} {E : Enc α} {f : Field} (hf : fs[i]? = some f) (ho : f.offset = o) (hc : P.cellsOf f.type = E.size) (hO : Opens P f.type E) : OpensFrom P fs i o E := by
  constructor
  intro H enc w base spare held m cs hl h
  obtain ⟨y, hy, hlt⟩ := h i f (Nat.le_refl _) hf
  rw [ho, List.take_of_length_le (by rw [List.length_drop]; omega)] at hy
  exact hO.h hy hlt
theorem OpensFrom.cons {P : Program} {fs : Array Field} {i o : Nat} {α β : Type} {E : Enc α} {E' : Enc β} {f : Field} (hf : fs[i]? = some f) (ho : f.offset = o) (hc : P.cellsOf f.type = E.size) (hO : Opens P f.type E) (hT : OpensFrom P fs (i + 1) (o + E.size) E') : OpensFrom P fs i o (E.prod E') := by
  constructor
  intro H enc w base spare held m cs hl h
  obtain ⟨y, hy, hlt⟩ := h i f (Nat.le_refl _) hf
  rw [ho, hc] at hy
  obtain ⟨a, ha⟩ := hO.h hy hlt
  obtain ⟨b, hb⟩ := hT.h (by rw [hl]; simp only [Enc.prod]; omega) fun k f hk hf => h k f (by omega) hf
  refine ⟨(a, b), _, _, ?_, ha, hb⟩
  rw [← List.drop_drop, List.take_append_drop]
theorem Opens.struct {P : Program} {t : TypeId} {fs : Array Field} {α : Type} {E : Enc α} (ht : P.underlying t = some (.struct fs)) (hc : P.cellsOf t = E.size) (h : OpensFrom P fs 0 0 E) : Opens P t E := by
  constructor
  intro H enc w base spare held fuel cs x hx hl
  obtain ⟨xs, n, _, hx1, hlen, hfs, hel⟩ := DataW.trod_struct ht hx
  have := h.h (m := n) (cs := cs) (by rw [hlen, hc, Nat.zero_add]) fun k f _ hf => by
    have hk : k < fs.size := (Array.getElem?_eq_some_iff.1 hf).1
    have h1 := hel k f hf
    rw [List.getElem?_eq_getElem (by omega)] at h1
    refine ⟨_, h1, fun m hm => hl m ?_⟩
    have e : x.1.weights P t = DataW.weightsEach P (fs.toList.map (·.type)) (xs.map (·.1)) := by rw [hx1, DataW.weights, ht]
    rw [e]
    exact DataW.weights_mem_each (j := k) (t := f.type) (by simp [hf]) (by rw [List.getElem?_map, List.getElem?_eq_getElem (by omega)]; rfl) m hm
  exact this

/-- An argument. -/
theorem open_arg {P : Program} {t : TypeId} {α : Type} {E : Enc α} (hO : Opens P t E) {H : Type} {enc : TypeId × Value → H} {w : World} {base : Nat} {spare : Nat → Bool} {held : Bool} {v : Value} {d : DataW H} {p : List MemPlace} (h : DataW.Trod enc P w base spare held t v d p) (hl : Light P t d) : ∃ a, Rd E (fun b => b < w.heap.size) w v a := by
  obtain ⟨fuel, hf⟩ := h
  exact hO.h hf hl
theorem light_of {H : Type} {P : Program} {ts : List TypeId} {ds : List (DataW H)} (h : (DataW.weightsEach P ts ds).all (· ≤ reachBytes) = true) {j : Nat} {t : TypeId} {d : DataW H} (ht : ts[j]? = some t) (hd : ds[j]? = some d) : Light P t d := fun n hn => by
  have := List.all_eq_true.1 h n (DataW.weights_mem_each ht hd n hn)
  simpa using this
theorem wf64 {n : Int} (h : (Lit.int .i64 n).wf = true) : -9223372036854775808 ≤ n ∧ n ≤ 9223372036854775807 := by
  simpa [Lit.wf, IntKind.min, IntKind.max, IntKind.signed, IntKind.bits] using h
end Go.Proofs.Ytahoapgmiecphaa

/-
  Steps of a walk over what the call owns and what came in: make, append, reading back. (A helper text; it claims nothing of the program.)
-/
namespace Go.Proofs.Ytahoapgmiecphaa
set_option linter.unusedVariables false
open Go.ChangeShapes Go.WideShapes Go.ChangeAt Go.RowKit

theorem cells_one_list {z : Value} (hz : z.cells = #[z]) (n : Nat) : cellsOf (List.replicate n z) = List.replicate n z := by
  induction n with
  | zero => rfl
  | succ n ih => rw [List.replicate_succ]; simp only [cellsOf, List.flatMap_cons, hz] at ih ⊢; rw [ih]; rfl

theorem own_mk (w : World) (e : TypeId) (z : Value) (hz : z.cells = #[z]) (n : Nat) (hn : n ≤ maxLen) : Own (w.alloc (.cells (madeCells #[z] n) e)) 0 e 1 (.slice (some ⟨w.heap.size, 0, none⟩) n n) (List.replicate n z) := by
  unfold Own
  rw [cells_one_list hz, List.length_replicate]
  refine ⟨by simp, .inr ⟨w.heap.size, n, madeCells #[z] n, rfl, Nat.zero_le _, heap_alloc_new _ _, Nat.le_refl _, hn, ?_, ?_⟩⟩
  · simp [madeCells]
  · simp only [madeCells, Array.toList_map, Array.toList_range, Nat.mul_one]
    rw [List.take_of_length_le (by simp)]
    apply List.ext_getElem (by simp)
    intro i h1 h2
    simp [Nat.mod_one]

/-- make([]T, n), an element being one cell. -/
theorem St.make {P : Program} {w0 w : World} {μ : List Asrt} {ops : Array Oper} {rest : List Oper} {o : Oper} {a : Act} {Q : Exit → Act → World → Prop} {t e : TypeId} {bytes : Nat} {z : Value} (hgd : o.guard = none) (l : Operand) (hop : o.op = Op.makeSlice t l l)
    (ht : P.underlying t = some (.slice e)) (hi : (P.info? e).map (fun i => (i.zero, i.size, i.bytes)) = some (some z, 1, bytes)) (hz : z.cells = #[z]) (h : St w0 w μ) (n : Nat) (hl : a.eval l = .int .i64 (n : Int)) (hn : (bytes : Int) * n ≤ 140737488355328) (hb : 0 < bytes)
    (hK : ∀ g w', St w0 w' (aOwn e 1 (.slice (some ⟨g, 0, none⟩) n n) (List.replicate n z) :: μ) → wpList P ops Q rest (a.put o.dst (.slice (some ⟨g, 0, none⟩) n n)) w') : wpList P ops Q (o :: rest) a w := by
  obtain ⟨i, h1, h2, h3, h4⟩ := info_parts hi
  have hle : n ≤ bytes * n := Nat.le_mul_of_pos_left n hb
  have hn' : bytes * n ≤ 140737488355328 := by rw [← Int.natCast_mul] at hn; omega
  refine wpList_make_row w hgd l l t hop e i z ht h1 h2 h3 hz .i64 .i64 n hl hl (by rw [h4]; omega) (by omega) (hK w.heap.size _ ?_)
  refine h.push ((Below.refl _ _).alloc (Nat.le_refl _) _) (own_mk w e z hz n (by unfold maxLen; omega)) (fun b hb => ?_) (by simp [aOwn, Value.ownBlock])
  simp [aOwn, Value.ownBlock] at hb
  subst hb
  simp

/-- append(s, l...) of a slice that reads as a list. -/
theorem St.appSl {P : Program} {w0 w : World} {μ : List Asrt} {t e : TypeId} {size bytes b2 : Nat} (E : ET P t e size bytes) {ops : Array Oper} {rest : List Oper} {o : Oper} {a : Act} {Q : Exit → Act → World → Prop}
    (hgd : o.guard = none) (s x : Operand) (ho : o.op = .call { callee := .builtin .append, args := #[s, x], argTypes := #[t, t] }) {v : Value} {xs : List Value} (hs : a.eval s = v)
    (h : St w0 w (aOwn e size v xs :: μ)) {α : Type} {En : Enc α} (hes : En.size = size) {F : Nat → Prop} {u : Value} {l : List α} (hl : (En.sl b2).R F w [u] l) (hx : a.eval x = u) (f : α → Value) (hf : ∀ w cs a, En.R F w cs a → cs = (f a).cells.toList) (h1 : ∀ a, ∀ q ∈ (f a).cells.toList, q.oneCell' = true)
    (hroom : ((xs.length + l.length : Nat) : Int) * bytes ≤ 140737488355328) (hlen : ((xs.length + l.length : Nat) : Int) ≤ 140737488355328)
    (hK : ∀ v' w', St w0 w' (aOwn e size v' (xs ++ l.map f) :: μ) → wpList P ops Q rest (a.put o.dst v') w') : wpList P ops Q (o :: rest) a w := by
  obtain ⟨ao, b, off, cap, hu, c1, c2, c3, c4, c5, c6⟩ := hl
  simp only [List.cons.injEq, and_true] at hu
  subst hu
  cases ao with
  | none =>
    have hl0 : l.length = 0 := by
      rcases Nat.eq_zero_or_pos l.length with h | h
      · exact h
      · have := (c5 h).1; cases this
    have hl1 := List.eq_nil_of_length_eq_zero hl0
    subst hl1
    have hc := c4 rfl
    subst hc
    obtain ⟨ht, ⟨i, z, hi, hz, hsize, hby, hzs⟩, hp⟩ := E
    refine wpList_append_own_none hgd s x t ho 0 e i size ht hi v xs.length (cellsOf xs) hs (h.ok _ (.head _)) hx (hK v w ?_)
    simpa using h
  | some ad =>
    have hcells : ∀ i (hi : i < l.length), (∀ j, j < size → w.cell? ⟨b, off + i * size + j, none⟩ = ((f l[i]).cells.toList)[j]?) ∧ (f l[i]).cells.toList.length = size := by
      intro i hi
      obtain ⟨cs, g1, g2, g3⟩ := c6 i hi
      have := hf _ _ _ g3
      subst this
      rw [hes] at g1 g2
      exact ⟨g2, g1⟩
    have hsz : ∀ u ∈ l.map f, u.cells.size = size := by
      intro u hu
      obtain ⟨y, hy, rfl⟩ := List.mem_map.1 hu
      obtain ⟨i, hi, rfl⟩ := List.getElem_of_mem hy
      rw [← Array.length_toList]
      exact (hcells i hi).2
    have hcl := cellsOf_len hsz
    rw [List.length_map] at hcl
    have hpos := E.pos
    have hread : ∀ j q, (cellsOf (l.map f))[j]? = some q → w.cell? (ad.add j) = some q := by
      intro j q hq
      have hj : j < l.length * size := by
        rw [← hcl]
        exact (List.getElem?_eq_some_iff.1 hq).1
      have hl0 : 0 < l.length := by
        rcases Nat.eq_zero_or_pos l.length with h | h
        · rw [h] at hj; omega
        · exact h
      obtain ⟨e1, _, _⟩ := c5 hl0
      cases e1
      have e2 : (⟨b, off, none⟩ : Addr).add j = ⟨b, off + j, none⟩ := by unfold Addr.add; split <;> simp_all
      rw [e2]
      have hi : j / size < l.length := (Nat.div_lt_iff_lt_mul hpos).2 hj
      have hm : j % size < size := Nat.mod_lt _ hpos
      have h3 := (hcells _ hi).1 _ hm
      rw [show off + j / size * size + j % size = off + j by rw [Nat.add_assoc, Nat.div_add_mod']] at h3
      rw [h3, ← hq]
      clear h3 hq
      symm
      have := cellsOf_get hsz (j / size) (by rw [List.length_map]; exact hi) (j % size) hm
      rw [Nat.div_add_mod'] at this
      rw [this]
      simp
    obtain ⟨v', w', hr, h2, h3, h4, h5⟩ := run_append_where (ty := o.type) E (v := v) (xs := xs) (h.ok _ (.head _)) ad l.length cap (cellsOf (l.map f)) hcl hread (by
        intro q hq
        obtain ⟨u, hu, hq2⟩ := List.mem_flatMap.1 hq
        obtain ⟨y, hy, rfl⟩ := List.mem_map.1 hu
        exact h1 y q hq2) (by unfold maxLen; omega) (by rw [← Int.natCast_mul] at hroom; omega)
    refine wpList_plain hgd fun K hK' => ?_
    unfold Oper.wp execOp
    simp only [ho, resolve, invoke, builtin, Sem.run_bind, Sem.run_pure, Result.andThen_ok, List.map_toArray, List.map_cons, List.map_nil, hs, hx, hr]
    refine hK' _ _ (hK v' w' ?_)
    have ho2 : Own w' 0 e size v' (xs ++ l.map f) := by
      unfold Own
      rw [cellsOf_append, List.length_append, List.length_map]
      exact h2
    refine h.upd h3.os h3.tape h3.output h3.size (fun b hb hm => ?_) ho2 (fun b hb => ?_) (nodup_ob _)
    · exact h3.block b hb fun e => hm (by simp [aOwn, ← e])
    · have hb' : v'.ownBlock = some b := by simpa [aOwn] using hb
      rcases h4 b hb' with h6 | h6
      · exact .inl (by simpa [aOwn] using h6)
      · exact .inr ⟨h6, (ho2.lt b hb').2⟩

/-- What the call owns reads as a list. -/
theorem Own.enc {α : Type} {En : Enc α} {w : World} {B : Nat} {e : TypeId} {size bytes : Nat} {v : Value} {l : List α} {f : α → Value} {F : Nat → Prop} (h : Own w B e size v (l.map f)) (hes : En.size = size) (hR : ∀ a ∈ l, En.R F w (f a).cells.toList a) (hF : ∀ b ∈ v.ownBlock.toList, F b)
    (hb : (l.length : Int) * bytes ≤ 140737488355328) : (En.sl bytes).R F w [v] l := by
  have hsz : ∀ u ∈ l.map f, u.cells.size = size := by
    intro u hu
    obtain ⟨y, hy, rfl⟩ := List.mem_map.1 hu
    rw [← Array.length_toList, En.len (hR y hy), hes]
  have hr := h
  unfold Own at hr
  rw [List.length_map] at hr
  rcases hr.2 with ⟨h1, h2⟩ | ⟨g, cap, cur, rfl, hB, hg, hn, hc, hcs, htk⟩
  · have : l = [] := List.eq_nil_of_length_eq_zero h2
    subst this
    exact ⟨none, 0, 0, 0, by rw [h1]; rfl, Nat.le_refl _, by decide, by simp, fun _ => rfl, fun h => by simp at h, fun i hi => by simp at hi⟩
  · refine ⟨some ⟨g, 0, none⟩, g, 0, cap, rfl, hn, hc, hb, (fun h => by cases h), fun _ => ⟨rfl, (Array.getElem?_eq_some_iff.1 hg).1, hF g (by simp [Value.ownBlock])⟩, fun i hi => ⟨_, ?_, fun j hj => ?_, hR _ (List.getElem_mem hi)⟩⟩
    · rw [En.len (hR _ (List.getElem_mem hi))]
    · rw [hes] at hj ⊢
      have h3 := cellsOf_get hsz i (by rw [List.length_map]; exact hi) j hj
      rw [List.getElem_map] at h3
      rw [← h3, Nat.zero_add, ← htk]
      have hlt : i * size + j < l.length * size := by
        have : (i + 1) * size ≤ l.length * size := Nat.mul_le_mul_right _ hi
        rw [Nat.add_mul] at this; omega
      rw [List.getElem?_take, if_pos hlt]
      simp [World.cell?, hg]
theorem Enc.toSl {α : Type} {En : Enc α} {bytes : Nat} {F : Nat → Prop} {w : World} {v : Value} {l : List α} (h : (En.sl bytes).R F w [v] l) : Sl w En.size (En.R F w) v l := by
  obtain ⟨ao, b, off, cap, hu, c1, c2, c3, c4, c5, c6⟩ := h
  simp only [List.cons.injEq, and_true] at hu
  exact ⟨ao, b, off, cap, hu, c1, c2, fun h => ⟨(c5 h).1, (c5 h).2.1⟩, c6⟩
theorem St.fpOwn {w0 w : World} {μ : List Asrt} {e : TypeId} {size : Nat} {v : Value} {xs : List Value} (h : St w0 w (aOwn e size v xs :: μ)) : ∀ b ∈ v.ownBlock.toList, w0.heap.size ≤ b ∧ b < w.heap.size := h.lo _ (.head _)

/-- A slice of one-cell elements that reads as a list: its cells. -/
theorem Enc.sl1 {α : Type} {En : Enc α} {bytes : Nat} {F : Nat → Prop} {w : World} {v : Value} {l : List α} (f : α → Value) (hf : ∀ w cs a, En.R F w cs a → cs = [f a]) (hs : En.size = 1) (d : α) (h : (En.sl bytes).R F w [v] l) :
    ∃ (ao : Option Addr) (b off cap : Nat), v = .slice ao l.length cap ∧ (l.length : Int) * bytes ≤ 140737488355328 ∧ (0 < l.length → ao = some ⟨b, off, none⟩ ∧ b < w.heap.size ∧ F b) ∧ ∀ i, i < l.length → w.cell? ⟨b, off + i, none⟩ = some (f (l.getD i d)) ∧ En.R F w [f (l.getD i d)] (l.getD i d) := by
  obtain ⟨ao, b, off, cap, hu, c1, c2, c3, c4, c5, c6⟩ := h
  simp only [List.cons.injEq, and_true] at hu
  refine ⟨ao, b, off, cap, hu, c3, c5, fun i hi => ?_⟩
  obtain ⟨cs, g1, g2, g3⟩ := c6 i hi
  have e := hf _ _ _ g3
  subst e
  have := g2 0 (by omega)
  rw [hs, Nat.mul_one, Nat.add_zero] at this
  have e2 : l.getD i d = l[i] := by simp [List.getD, List.getElem?_eq_getElem hi]
  rw [e2]
  exact ⟨by rw [this]; rfl, g3⟩
/-- A slice whose elements are n plain cells each. -/
theorem Enc.slN {α : Type} {En : Enc α} {bytes : Nat} {F : Nat → Prop} {w : World} {v : Value} {l : List α} (d : α) (h : (En.sl bytes).R F w [v] l) :
    ∃ (ao : Option Addr) (b off cap : Nat), v = .slice ao l.length cap ∧ (l.length : Int) * bytes ≤ 140737488355328 ∧ (0 < l.length → ao = some ⟨b, off, none⟩ ∧ b < w.heap.size ∧ F b) ∧ ∀ i, i < l.length → ∃ cs, cs.length = En.size ∧ (∀ j, j < En.size → w.cell? ⟨b, off + i * En.size + j, none⟩ = cs[j]?) ∧ En.R F w cs (l.getD i d) := by
  obtain ⟨ao, b, off, cap, hu, c1, c2, c3, c4, c5, c6⟩ := h
  simp only [List.cons.injEq, and_true] at hu
  refine ⟨ao, b, off, cap, hu, c3, c5, fun i hi => ?_⟩
  have e2 : l.getD i d = l[i] := by simp [List.getD, List.getElem?_eq_getElem hi]
  rw [e2]
  exact c6 i hi
end Go.Proofs.Ytahoapgmiecphaa

/-
  Slices of structs of two numbers. (A helper text; it claims nothing of the program.)
-/
namespace Go.Proofs.Ytahoapgmiecphaa
set_option linter.unusedVariables false
open Go.ChangeShapes Go.WideShapes Go.ChangeAt Go.RowKit

def Enc.two : Enc (Int × Int) := Enc.prod (Enc.int .i64) (Enc.int .i64)
def pairV (p : Int × Int) : Value := .agg #[.int .i64 p.1, .int .i64 p.2]
theorem two_cells {F : Nat → Prop} {w : World} {cs : List Value} {p : Int × Int} (h : Enc.two.R F w cs p) : cs = [.int .i64 p.1, .int .i64 p.2] ∧ (-9223372036854775808 ≤ p.1 ∧ p.1 ≤ 9223372036854775807) ∧ (-9223372036854775808 ≤ p.2 ∧ p.2 ≤ 9223372036854775807) := by
  obtain ⟨c1, c2, rfl, ⟨rfl, h1⟩, ⟨rfl, h2⟩⟩ := h
  exact ⟨rfl, wf64 h1, wf64 h2⟩
theorem two_mk {F : Nat → Prop} {w : World} {p : Int × Int} (h1 : -9223372036854775808 ≤ p.1 ∧ p.1 ≤ 9223372036854775807) (h2 : -9223372036854775808 ≤ p.2 ∧ p.2 ≤ 9223372036854775807) : Enc.two.R F w (pairV p).cells.toList p :=
  ⟨[.int .i64 p.1], [.int .i64 p.2], rfl, ⟨rfl, WalkArith.wf_i64 h1⟩, ⟨rfl, WalkArith.wf_i64 h2⟩⟩
theorem slTwo {bytes : Nat} {F : Nat → Prop} {w : World} {v : Value} {l : List (Int × Int)} (h : (Enc.two.sl bytes).R F w [v] l) :
    ∃ (ao : Option Addr) (b off cap : Nat), v = .slice ao l.length cap ∧ (l.length : Int) * bytes ≤ 140737488355328 ∧ (0 < l.length → ao = some ⟨b, off, none⟩ ∧ b < w.heap.size ∧ F b) ∧
      ∀ i, i < l.length → w.cell? ⟨b, off + i * 2, none⟩ = some (.int .i64 (l.getD i (0, 0)).1) ∧ w.cell? ⟨b, off + i * 2 + 1, none⟩ = some (.int .i64 (l.getD i (0, 0)).2) ∧
        (-9223372036854775808 ≤ (l.getD i (0, 0)).1 ∧ (l.getD i (0, 0)).1 ≤ 9223372036854775807) ∧ (-9223372036854775808 ≤ (l.getD i (0, 0)).2 ∧ (l.getD i (0, 0)).2 ≤ 9223372036854775807) := by
  obtain ⟨ao, b, off, cap, h0, h1, h2, h3⟩ := Enc.slN (0, 0) h
  refine ⟨ao, b, off, cap, h0, h1, h2, fun i hi => ?_⟩
  obtain ⟨cs, _, g2, g3⟩ := h3 i hi
  obtain ⟨rfl, g4, g5⟩ := two_cells g3
  exact ⟨g2 0 (by decide), g2 1 (by decide), g4, g5⟩
theorem Own.two {w : World} {B : Nat} {e : TypeId} {v : Value} {l : List (Int × Int)} {F : Nat → Prop} (h : Own w B e 2 v (l.map pairV)) (hF : ∀ b ∈ v.ownBlock.toList, F b) (hb : (l.length : Int) * 16 ≤ 140737488355328)
    (hw : ∀ p ∈ l, (-9223372036854775808 ≤ p.1 ∧ p.1 ≤ 9223372036854775807) ∧ (-9223372036854775808 ≤ p.2 ∧ p.2 ≤ 9223372036854775807)) : (Enc.two.sl 16).R F w [v] l :=
  Own.enc (En := Enc.two) (bytes := 16) h rfl (fun a ha => two_mk (hw a ha).1 (hw a ha).2) hF hb
/-- A struct of two numbers. -/
theorem opens_two {P : Program} {t : TypeId} {f0 f1 : Field} (ht : P.underlying t = some (.struct #[f0, f1])) (hc : P.cellsOf t = 2) (o0 : f0.offset = 0) (o1 : f1.offset = 1) (c0 : P.cellsOf f0.type = 1) (c1 : P.cellsOf f1.type = 1)
    (k0 : P.underlying f0.type = some (.int .i64)) (k1 : P.underlying f1.type = some (.int .i64)) : Opens P t Enc.two := by
  have h1 : OpensFrom P #[f0, f1] 1 1 (Enc.int .i64) := OpensFrom.last (f := f1) rfl o1 c1 (Opens.int k1)
  have h0 : OpensFrom P #[f0, f1] 0 0 (Enc.prod (Enc.int .i64) (Enc.int .i64)) := OpensFrom.cons (f := f0) rfl o0 c0 (Opens.int k0) h1
  exact Opens.struct ht hc h0
end Go.Proofs.Ytahoapgmiecphaa

/-
  A grammar as data; which symbols are its own.
-/
namespace Go.Proofs.Ytahoapgmiecphaa
set_option linter.unusedVariables false
open Go.ChangeShapes Go.WideShapes Go.ChangeAt Go.RowKit

def Enc.prods : Enc (List (Int × List (Int × Int))) := (Enc.prod (Enc.int .i64) (Enc.two.sl 16)).sl 32
theorem slProds {F : Nat → Prop} {w : World} {v : Value} {l : List (Int × List (Int × Int))} (h : Enc.prods.R F w [v] l) :
    ∃ (ao : Option Addr) (b off cap : Nat), v = .slice ao l.length cap ∧ (l.length : Int) * 32 ≤ 140737488355328 ∧ (0 < l.length → ao = some ⟨b, off, none⟩ ∧ b < w.heap.size ∧ F b) ∧
      ∀ i, i < l.length → ∃ vb, w.cell? ⟨b, off + i * 2, none⟩ = some (.int .i64 (l.getD i (0, [])).1) ∧ w.cell? ⟨b, off + i * 2 + 1, none⟩ = some vb ∧ (Enc.two.sl 16).R F w [vb] (l.getD i (0, [])).2 ∧
        (-9223372036854775808 ≤ (l.getD i (0, [])).1 ∧ (l.getD i (0, [])).1 ≤ 9223372036854775807) := by
  obtain ⟨ao, b, off, cap, h0, h1, h2, h3⟩ := Enc.slN (0, []) h
  refine ⟨ao, b, off, cap, h0, h1, h2, fun i hi => ?_⟩
  obtain ⟨cs, _, g2, g3⟩ := h3 i hi
  obtain ⟨c1, c2, rfl, ⟨rfl, hw⟩, hb⟩ := g3
  have hb2 := hb
  obtain ⟨ao2, b2, off2, cap2, rfl, _⟩ := hb2
  exact ⟨_, g2 0 (by decide), g2 1 (by decide), hb, wf64 hw⟩
theorem opens_prods {P : Program} {ts t sb sy : TypeId} {f0 f1 g0 g1 : Field} (hts : P.underlying ts = some (.slice t)) (ht : P.underlying t = some (.struct #[f0, f1])) (hsb : P.underlying f1.type = some (.slice sy)) (hsy : P.underlying sy = some (.struct #[g0, g1]))
    (hc : P.cellsOf t = 2) (hby : P.bytesOf t = 32) (o0 : f0.offset = 0) (o1 : f1.offset = 1) (c0 : P.cellsOf f0.type = 1) (c1 : P.cellsOf f1.type = 1) (k0 : P.underlying f0.type = some (.int .i64))
    (hcs : P.cellsOf sy = 2) (hbs : P.bytesOf sy = 16) (p0 : g0.offset = 0) (p1 : g1.offset = 1) (d0 : P.cellsOf g0.type = 1) (d1 : P.cellsOf g1.type = 1) (q0 : P.underlying g0.type = some (.int .i64)) (q1 : P.underlying g1.type = some (.int .i64)) : Opens P ts Enc.prods := by
  have hS : Opens P f1.type (Enc.two.sl 16) := Opens.sl hsb hcs (by decide) hbs (opens_two hsy hcs p0 p1 d0 d1 q0 q1)
  have h1 : OpensFrom P #[f0, f1] 1 1 (Enc.two.sl 16) := OpensFrom.last (f := f1) rfl o1 c1 hS
  have h0 : OpensFrom P #[f0, f1] 0 0 (Enc.prod (Enc.int .i64) (Enc.two.sl 16)) := OpensFrom.cons (f := f0) rfl o0 c0 (Opens.int k0) h1
  exact Opens.sl hts hc (by decide) hby (Opens.struct ht hc h0)

namespace Gr
def right (t n : Int) (x : Int × Int) : Bool := decide (x.1 = 1 ∧ 0 ≤ x.2 ∧ x.2 < t) || decide (x.1 = 2 ∧ 0 ≤ x.2 ∧ x.2 < n)
theorem right_yes {t n : Int} {x : Int × Int} (h : (x.1 = 1 ∧ 0 ≤ x.2 ∧ x.2 < t) ∨ (x.1 = 2 ∧ 0 ≤ x.2 ∧ x.2 < n)) : right t n x = true := by
  rcases h with h | h <;> simp [right, h]
theorem right_no {t n : Int} {x : Int × Int} (h : ¬ ((x.1 = 1 ∧ 0 ≤ x.2 ∧ x.2 < t) ∨ (x.1 = 2 ∧ 0 ≤ x.2 ∧ x.2 < n))) : right t n x = false := by
  cases hr : right t n x
  · rfl
  · exfalso; apply h
    simp only [right, Bool.or_eq_true, decide_eq_true_eq] at hr
    exact hr
theorem right_iff {t n : Int} {x : Int × Int} : right t n x = true ↔ (x.1 = 1 ∧ 0 ≤ x.2 ∧ x.2 < t) ∨ (x.1 = 2 ∧ 0 ≤ x.2 ∧ x.2 < n) := by
  simp only [right, Bool.or_eq_true, decide_eq_true_eq]
end Gr
attribute [irreducible] Gr.right

set_option maxRecDepth 100000 in
theorem right_any (t n : Int) (vp : Value) (x1 x2 : Int) (w : World) :
    Calls Try.prog 139 #[.agg #[.int .i64 t, .int .i64 n, vp], .agg #[.int .i64 x1, .int .i64 x2]] w fun e w' => e = .returned (.bool (Gr.right t n (x1, x2))) ∧ Below w.heap.size w w' := by
  by_cases k1 : x1 = 1
  · have e1 : ((x1 : Int) == 1) = true := by rw [beq_iff_eq]; omega
    have e2 : ((x1 : Int) == 2) = false := by rw [beq_eq_false_iff_ne]; omega
    have HK := Lib.hid k1; clear k1
    by_cases h0 : 0 ≤ x2
    · by_cases h1 : x2 < t
      · have HE := Lib.hid (Gr.right_yes (t := t) (n := n) (x := (x1, x2)) (by simp only []; have := HK.out; omega))
        go_enter Try.func139, Try.ntmps139
        go_wp2
        go_ret
        exact ⟨by rw [HE.out]; rfl, ((Below.refl _ _).alloc (Nat.le_refl _) _).alloc (by simp) _⟩
      · have HE := Lib.hid (Gr.right_no (t := t) (n := n) (x := (x1, x2)) (by simp only []; have := HK.out; omega))
        go_enter Try.func139, Try.ntmps139
        go_wp2
        go_ret
        exact ⟨by rw [HE.out]; rfl, ((Below.refl _ _).alloc (Nat.le_refl _) _).alloc (by simp) _⟩
    · have HE := Lib.hid (Gr.right_no (t := t) (n := n) (x := (x1, x2)) (by simp only []; have := HK.out; omega))
      go_enter Try.func139, Try.ntmps139
      go_wp2
      go_ret
      exact ⟨by rw [HE.out]; rfl, ((Below.refl _ _).alloc (Nat.le_refl _) _).alloc (by simp) _⟩
  by_cases k2 : x1 = 2
  · have e1 : ((x1 : Int) == 1) = false := by rw [beq_eq_false_iff_ne]; omega
    have e2 : ((x1 : Int) == 2) = true := by rw [beq_iff_eq]; omega
    have HK := Lib.hid k2; clear k2
    by_cases h0 : 0 ≤ x2
    · by_cases h1 : x2 < n
      · have HE := Lib.hid (Gr.right_yes (t := t) (n := n) (x := (x1, x2)) (by simp only []; have := HK.out; omega))
        go_enter Try.func139, Try.ntmps139
        go_wp2
        go_ret
        exact ⟨by rw [HE.out]; rfl, ((Below.refl _ _).alloc (Nat.le_refl _) _).alloc (by simp) _⟩
      · have HE := Lib.hid (Gr.right_no (t := t) (n := n) (x := (x1, x2)) (by simp only []; have := HK.out; omega))
        go_enter Try.func139, Try.ntmps139
        go_wp2
        go_ret
        exact ⟨by rw [HE.out]; rfl, ((Below.refl _ _).alloc (Nat.le_refl _) _).alloc (by simp) _⟩
    · have HE := Lib.hid (Gr.right_no (t := t) (n := n) (x := (x1, x2)) (by simp only []; have := HK.out; omega))
      go_enter Try.func139, Try.ntmps139
      go_wp2
      go_ret
      exact ⟨by rw [HE.out]; rfl, ((Below.refl _ _).alloc (Nat.le_refl _) _).alloc (by simp) _⟩
  · have e1 : ((x1 : Int) == 1) = false := by rw [beq_eq_false_iff_ne]; omega
    have e2 : ((x1 : Int) == 2) = false := by rw [beq_eq_false_iff_ne]; omega
    by_cases h0 : 0 ≤ x2
    · have HE := Lib.hid (Gr.right_no (t := t) (n := n) (x := (x1, x2)) (by simp only [];  omega))
      go_enter Try.func139, Try.ntmps139
      go_wp2
      go_ret
      exact ⟨by rw [HE.out]; rfl, ((Below.refl _ _).alloc (Nat.le_refl _) _).alloc (by simp) _⟩
    · have HE := Lib.hid (Gr.right_no (t := t) (n := n) (x := (x1, x2)) (by simp only [];  omega))
      go_enter Try.func139, Try.ntmps139
      go_wp2
      go_ret
      exact ⟨by rw [HE.out]; rfl, ((Below.refl _ _).alloc (Nat.le_refl _) _).alloc (by simp) _⟩

set_option maxRecDepth 100000 in
theorem rightSym_any (t n : Int) (vp : Value) (x1 x2 : Int) (w : World) :
    Calls Try.prog 35 #[.agg #[.int .i64 t, .int .i64 n, vp], .agg #[.int .i64 x1, .int .i64 x2]] w fun e w' => e = .returned (.bool (Gr.right t n (x1, x2))) ∧ Below w.heap.size w w' := by
  by_cases k1 : x1 = 1
  · have e1 : ((x1 : Int) == 1) = true := by rw [beq_iff_eq]; omega
    have e2 : ((x1 : Int) == 2) = false := by rw [beq_eq_false_iff_ne]; omega
    have HK := Lib.hid k1; clear k1
    by_cases h0 : 0 ≤ x2
    · by_cases h1 : x2 < t
      · have HE := Lib.hid (Gr.right_yes (t := t) (n := n) (x := (x1, x2)) (by simp only []; have := HK.out; omega))
        go_enter Try.func35, Try.ntmps35
        go_wp2
        go_ret
        exact ⟨by rw [HE.out]; rfl, ((Below.refl _ _).alloc (Nat.le_refl _) _).alloc (by simp) _⟩
      · have HE := Lib.hid (Gr.right_no (t := t) (n := n) (x := (x1, x2)) (by simp only []; have := HK.out; omega))
        go_enter Try.func35, Try.ntmps35
        go_wp2
        go_ret
        exact ⟨by rw [HE.out]; rfl, ((Below.refl _ _).alloc (Nat.le_refl _) _).alloc (by simp) _⟩
    · have HE := Lib.hid (Gr.right_no (t := t) (n := n) (x := (x1, x2)) (by simp only []; have := HK.out; omega))
      go_enter Try.func35, Try.ntmps35
      go_wp2
      go_ret
      exact ⟨by rw [HE.out]; rfl, ((Below.refl _ _).alloc (Nat.le_refl _) _).alloc (by simp) _⟩
  by_cases k2 : x1 = 2
  · have e1 : ((x1 : Int) == 1) = false := by rw [beq_eq_false_iff_ne]; omega
    have e2 : ((x1 : Int) == 2) = true := by rw [beq_iff_eq]; omega
    have HK := Lib.hid k2; clear k2
    by_cases h0 : 0 ≤ x2
    · by_cases h1 : x2 < n
      · have HE := Lib.hid (Gr.right_yes (t := t) (n := n) (x := (x1, x2)) (by simp only []; have := HK.out; omega))
        go_enter Try.func35, Try.ntmps35
        go_wp2
        go_ret
        exact ⟨by rw [HE.out]; rfl, ((Below.refl _ _).alloc (Nat.le_refl _) _).alloc (by simp) _⟩
      · have HE := Lib.hid (Gr.right_no (t := t) (n := n) (x := (x1, x2)) (by simp only []; have := HK.out; omega))
        go_enter Try.func35, Try.ntmps35
        go_wp2
        go_ret
        exact ⟨by rw [HE.out]; rfl, ((Below.refl _ _).alloc (Nat.le_refl _) _).alloc (by simp) _⟩
    · have HE := Lib.hid (Gr.right_no (t := t) (n := n) (x := (x1, x2)) (by simp only []; have := HK.out; omega))
      go_enter Try.func35, Try.ntmps35
      go_wp2
      go_ret
      exact ⟨by rw [HE.out]; rfl, ((Below.refl _ _).alloc (Nat.le_refl _) _).alloc (by simp) _⟩
  · have e1 : ((x1 : Int) == 1) = false := by rw [beq_eq_false_iff_ne]; omega
    have e2 : ((x1 : Int) == 2) = false := by rw [beq_eq_false_iff_ne]; omega
    by_cases h0 : 0 ≤ x2
    · have HE := Lib.hid (Gr.right_no (t := t) (n := n) (x := (x1, x2)) (by simp only [];  omega))
      go_enter Try.func35, Try.ntmps35
      go_wp2
      go_ret
      exact ⟨by rw [HE.out]; rfl, ((Below.refl _ _).alloc (Nat.le_refl _) _).alloc (by simp) _⟩
    · have HE := Lib.hid (Gr.right_no (t := t) (n := n) (x := (x1, x2)) (by simp only [];  omega))
      go_enter Try.func35, Try.ntmps35
      go_wp2
      go_ret
      exact ⟨by rw [HE.out]; rfl, ((Below.refl _ _).alloc (Nat.le_refl _) _).alloc (by simp) _⟩

/-- The grammar's box. -/
def GrBox (w : World) (G : Nat) (t n : Int) (vp : Value) : Prop := w.cell? ⟨G, 0, none⟩ = some (.int .i64 t) ∧ w.cell? ⟨G, 1, none⟩ = some (.int .i64 n) ∧ w.cell? ⟨G, 2, none⟩ = some vp
theorem GrBox.below {w w' : World} {G : Nat} {t n : Int} {vp : Value} {B : Nat} (h : GrBox w G t n vp) (hb : Below B w w') (hG : G < B) : GrBox w' G t n vp :=
  ⟨(hb.cell (p := ⟨G, 0, none⟩) hG).trans h.1, (hb.cell (p := ⟨G, 1, none⟩) hG).trans h.2.1, (hb.cell (p := ⟨G, 2, none⟩) hG).trans h.2.2⟩
theorem GrBox.lt {w : World} {G : Nat} {t n : Int} {vp : Value} (h : GrBox w G t n vp) : G < w.heap.size := World.block_lt_of_cell? w _ h.1

set_option maxRecDepth 100000 in
theorem badSym_any (t n : Int) (vp : Value) (G : Nat) (x : Int × Int) (w : World) (hG : GrBox w G t n vp) :
    Calls Try.prog 138 #[.agg #[.int .i64 x.1, .int .i64 x.2], .pointer (some ⟨G, 0, none⟩)] w fun e w' => e = .returned (.bool (!Gr.right t n x)) ∧ Below w.heap.size w w' := by
  obtain ⟨x1, x2⟩ := x
  have hlt := hG.lt
  obtain ⟨g0, g1, g2⟩ := hG
  go_enter Try.func138, Try.ntmps138
  go_wp2_with (go_at_call 139; refine (right_any t n vp x1 x2 _).mono ?_; rintro e w1 ⟨rfl, hb1⟩)
  go_ret
  exact ⟨rfl, ((Below.refl _ _).alloc (Nat.le_refl _) _).trans (hb1.mono (by simp))⟩

theorem any_none' {α : Type} {p : α → Bool} {l : List α} {d : α} (h : ∀ j, j < l.length → p (l.getD j d) = false) : l.any p = false := by
  rw [List.any_eq_false]
  intro x hx
  obtain ⟨j, hj, rfl⟩ := List.getElem_of_mem hx
  have := h j hj
  rw [List.getD, List.getElem?_eq_getElem hj] at this
  simpa using this
theorem any_some' {α : Type} {p : α → Bool} {l : List α} {d : α} {k : Nat} (hk : k < l.length) (h : p (l.getD k d) = true) : l.any p = true :=
  List.any_eq_true.2 ⟨l.getD k d, by simp [List.getD, List.getElem?_eq_getElem hk], h⟩

set_option maxRecDepth 100000 in
theorem badSymIndex_any (t n : Int) (vp : Value) (G : Nat) (l : List (Int × Int)) (v : Value) (w : World) (F : Nat → Prop) (h : (Enc.two.sl 16).R F w [v] l) (hG : GrBox w G t n vp) :
    Calls Try.prog 158 #[v, .func (.func 138) #[] #[.pointer (some ⟨G, 0, none⟩)]] w fun e w' => (∃ r : Int, e = .returned (.int .i64 r) ∧ decide (0 ≤ r) = l.any (fun x => !Gr.right t n x)) ∧ Below w.heap.size w w' := by
  obtain ⟨ao, b, off, cap, rfl, hl, n3, n4⟩ := slTwo h
  clear h
  have hl2 : (l.length : Int) ≤ 140737488355328 := by omega
  have N3 := Lib.hid n3; have N4 := Lib.hid n4; have HG := Lib.hid hG
  have hGl := hG.lt
  clear n3 n4 hl hG
  go_enter Try.func158, Try.ntmps158
  go_wp2
  go_loopw [5, 8] (fun _ i wr => ∃ k : Nat, k ≤ l.length ∧ i = .int .i64 k ∧ Below w.heap.size w wr ∧ Hid (∀ j, j < k → (!Gr.right t n (l.getD j (0, 0))) = false)) (fun _ i _ => l.length - (intOf i).toNat)
  case atStart => exact ⟨0, by omega, rfl, Below.refl _ _, Lib.hid (fun j hj => absurd hj (by omega))⟩
  case round =>
    obtain ⟨k, hk, rfl, hB, hq⟩ := hrel
    by_cases hlt : k < l.length
    · obtain ⟨rfl, _, _⟩ := N3.out (by omega)
      have hc1 := bkeep hB (N4.out k hlt).1
      have hc2 := bkeep hB (N4.out k hlt).2.1
      obtain ⟨x, hx⟩ : ∃ x, x = l.getD k (0, 0) := ⟨_, rfl⟩
      rw [← hx] at hc1 hc2
      have HXE := Lib.hid hx; clear hx
      have HGB := HG.out.below hB hGl
      have HGH := Lib.hid HGB; clear HGB
      cases hbk : Gr.right t n x
      · have HBK := Lib.hid hbk; clear hbk
        go_wp2_with (go_at_call 138; refine (badSym_any t n vp G x _ HGH.out).mono ?_; rintro e w9 ⟨rfl, hb9⟩; rw [HBK.out])
        go_ret
        exact ⟨⟨k, rfl, by rw [any_some' (d := (0, 0)) hlt (by rw [← HXE.out, HBK.out]; rfl)]; simp⟩, hB.trans (hb9.mono hB.size)⟩
      · have HBK := Lib.hid hbk; clear hbk
        go_wp2_with (go_at_call 138; refine (badSym_any t n vp G x _ HGH.out).mono ?_; rintro e w9 ⟨rfl, hb9⟩; rw [HBK.out])
        go_roundw
        case rel =>
          refine ⟨k + 1, by omega, by go_num, hB.trans (hb9.mono hB.size), Lib.hid (fun j hj => ?_)⟩
          rcases Nat.lt_succ_iff_lt_or_eq.1 hj with hj | rfl
          · exact hq.out j hj
          · rw [← HXE.out, HBK.out]; rfl
        case measure => simp [intOf]; omega
    · obtain rfl : k = l.length := by omega
      go_wp2
      go_ret
      exact ⟨⟨-1, rfl, by rw [any_none' (d := (0, 0)) hq.out]; rfl⟩, hB⟩

set_option maxRecDepth 100000 in
theorem badSymIn_any (t n : Int) (vp : Value) (G : Nat) (l : List (Int × Int)) (v : Value) (w : World) (F : Nat → Prop) (h : (Enc.two.sl 16).R F w [v] l) (hG : GrBox w G t n vp) :
    Calls Try.prog 137 #[v, .func (.func 138) #[] #[.pointer (some ⟨G, 0, none⟩)]] w fun e w' => e = .returned (.bool (l.any (fun x => !Gr.right t n x))) ∧ Below w.heap.size w w' := by
  go_enter Try.func137, Try.ntmps137
  go_wp2_with (go_at_call 158; refine (badSymIndex_any t n vp G l v _ F h hG).mono ?_; rintro e w9 ⟨⟨r, rfl, hr⟩, hb9⟩)
  go_ret
  exact ⟨by rw [← hr]; simp, hb9⟩
end Go.Proofs.Ytahoapgmiecphaa

/-
  What is wrong with a grammar: cfg.Check and Cfg of the reference.
-/
namespace Go.Proofs.Ytahoapgmiecphaa
set_option linter.unusedVariables false
open Go.ChangeShapes Go.WideShapes Go.ChangeAt Go.RowKit

namespace Gr
variable {t n : Int} {l : List (Int × List (Int × Int))}
def errP (t n : Int) : List (Int × List (Int × Int)) → Int
  | [] => 0
  | p :: r => if 8 < p.2.length then 2 else if p.1 < 0 ∨ n ≤ p.1 ∨ p.2.any (fun x => !right t n x) = true then 1 else errP t n r
def err (t n : Int) (l : List (Int × List (Int × Int))) : Int := if t < 0 ∨ 30 < t ∨ n < 1 ∨ 20 < n then 1 else if 40 < l.length then 2 else errP t n l
theorem err_arg (h : t < 0 ∨ 30 < t ∨ n < 1 ∨ 20 < n) : err t n l = 1 := by rw [err, if_pos h]
theorem err_large (h : ¬ (t < 0 ∨ 30 < t ∨ n < 1 ∨ 20 < n)) (h1 : 40 < l.length) : err t n l = 2 := by rw [err, if_neg h, if_pos h1]
theorem err_go (h : ¬ (t < 0 ∨ 30 < t ∨ n < 1 ∨ 20 < n)) (h1 : ¬ 40 < l.length) : err t n l = errP t n (l.drop 0) := by rw [err, if_neg h, if_neg h1, List.drop_zero]
theorem drop_at {α : Type} (l : List α) (d : α) (k : Nat) (h : k < l.length) : l.drop k = l.getD k d :: l.drop (k + 1) := by
  rw [List.drop_eq_getElem_cons h]; simp [List.getD, List.getElem?_eq_getElem h]
theorem errP_end : errP t n (l.drop l.length) = 0 := by rw [List.drop_length]; rfl
theorem errP_wide {k : Nat} (h : k < l.length) (h1 : 8 < (l.getD k (0, [])).2.length) : errP t n (l.drop k) = 2 := by rw [drop_at l (0, []) k h, errP, if_pos h1]
theorem errP_bad {k : Nat} (h : k < l.length) (h1 : ¬ 8 < (l.getD k (0, [])).2.length) (h2 : (l.getD k (0, [])).1 < 0 ∨ n ≤ (l.getD k (0, [])).1 ∨ (l.getD k (0, [])).2.any (fun x => !right t n x) = true) : errP t n (l.drop k) = 1 := by
  rw [drop_at l (0, []) k h, errP, if_neg h1, if_pos h2]
theorem errP_next {k : Nat} (h : k < l.length) (h1 : ¬ 8 < (l.getD k (0, [])).2.length) (h2 : ¬ ((l.getD k (0, [])).1 < 0 ∨ n ≤ (l.getD k (0, [])).1 ∨ (l.getD k (0, [])).2.any (fun x => !right t n x) = true)) : errP t n (l.drop k) = errP t n (l.drop (k + 1)) := by
  rw [drop_at l (0, []) k h, errP, if_neg h1, if_neg h2]
theorem errP_in (t n : Int) (l) : 0 ≤ errP t n l ∧ errP t n l ≤ 2 := by
  induction l with
  | nil => simp [errP]
  | cons p r ih => rw [errP]; split; · simp
                   split; · simp
                   exact ih
theorem err_in (t n : Int) (l) : 0 ≤ err t n l ∧ err t n l ≤ 2 := by
  rw [err]; split; · simp
  split; · simp
  exact errP_in t n l
theorem errP_zero {t n : Int} {l} (h : errP t n l = 0) : ∀ p ∈ l, p.2.length ≤ 8 ∧ 0 ≤ p.1 ∧ p.1 < n ∧ ∀ x ∈ p.2, right t n x = true := by
  induction l with
  | nil => intro p hp; cases hp
  | cons q r ih =>
    rw [errP] at h
    split at h
    · cases h
    split at h
    · cases h
    rename_i h1 h2
    intro p hp
    rcases List.mem_cons.1 hp with rfl | hp
    · refine ⟨by omega, by omega, by omega, fun x hx => ?_⟩
      have h3 : ¬ p.2.any (fun x => !right t n x) = true := fun e => h2 (.inr (.inr e))
      have h3' : p.2.any (fun x => !right t n x) = false := by
        cases hh : p.2.any (fun x => !right t n x)
        · rfl
        · exact absurd hh h3
      have h4 := List.any_eq_false.1 h3' x hx
      cases hr : right t n x
      · rw [hr] at h4; simp at h4
      · rfl
    · exact ih h p hp
/-- A right grammar. -/
theorem err_zero {t n : Int} {l} (h : err t n l = 0) : 0 ≤ t ∧ t ≤ 30 ∧ 1 ≤ n ∧ n ≤ 20 ∧ l.length ≤ 40 ∧ ∀ p ∈ l, p.2.length ≤ 8 ∧ 0 ≤ p.1 ∧ p.1 < n ∧ ∀ x ∈ p.2, right t n x = true := by
  rw [err] at h
  split at h
  · cases h
  split at h
  · cases h
  rename_i h1 h2
  exact ⟨by omega, by omega, by omega, by omega, by omega, errP_zero h⟩
end Gr
attribute [irreducible] Gr.err Gr.errP

set_option maxRecDepth 100000 in
set_option maxHeartbeats 4000000 in
theorem cfgCheck_any (t n : Int) (vp : Value) (l : List (Int × List (Int × Int))) (w : World) (F : Nat → Prop) (hF : ∀ b, F b → b < w.heap.size) (h : Enc.prods.R F w [vp] l) :
    Calls Try.prog 99 #[.agg #[.int .i64 t, .int .i64 n, vp]] w fun e w' => e = .returned (.int .i64 (Gr.err t n l)) ∧ Below w.heap.size w w' := by
  obtain ⟨ao, b, off, cap, rfl, hl, c2, c3⟩ := slProds h
  have C2 := Lib.hid c2; have C3 := Lib.hid c3
  clear c2 c3 h hl
  by_cases h1 : t < 0
  · have HE := Lib.hid (Gr.err_arg (t := t) (n := n) (l := l) (by omega))
    go_enter Try.func99, Try.ntmps99
    go_wp2
    go_ret
    exact ⟨by rw [HE.out]; rfl, (Below.refl _ _).alloc (Nat.le_refl _) _⟩
  by_cases h2 : 30 < t
  · have HE := Lib.hid (Gr.err_arg (t := t) (n := n) (l := l) (by omega))
    go_enter Try.func99, Try.ntmps99
    go_wp2
    go_ret
    exact ⟨by rw [HE.out]; rfl, (Below.refl _ _).alloc (Nat.le_refl _) _⟩
  by_cases h3 : n < 1
  · have HE := Lib.hid (Gr.err_arg (t := t) (n := n) (l := l) (by omega))
    go_enter Try.func99, Try.ntmps99
    go_wp2
    go_ret
    exact ⟨by rw [HE.out]; rfl, (Below.refl _ _).alloc (Nat.le_refl _) _⟩
  by_cases h4 : 20 < n
  · have HE := Lib.hid (Gr.err_arg (t := t) (n := n) (l := l) (by omega))
    go_enter Try.func99, Try.ntmps99
    go_wp2
    go_ret
    exact ⟨by rw [HE.out]; rfl, (Below.refl _ _).alloc (Nat.le_refl _) _⟩
  by_cases h5 : 40 < l.length
  · have HE := Lib.hid (Gr.err_large (t := t) (n := n) (l := l) (by omega) h5)
    go_enter Try.func99, Try.ntmps99
    go_wp2
    go_ret
    exact ⟨by rw [HE.out]; rfl, (Below.refl _ _).alloc (Nat.le_refl _) _⟩
  have HE := Lib.hid (Gr.err_go (t := t) (n := n) (l := l) (by omega) h5)
  go_enter Try.func99, Try.ntmps99
  go_wp2
  go_loopw [4, 32] (fun _ i wr => ∃ k : Nat, k ≤ l.length ∧ i = .int .i64 k ∧ Below w.heap.size w wr ∧ Hid (GrBox wr w.heap.size t n (.slice ao l.length cap)) ∧ Hid (Gr.err t n l = Gr.errP t n (l.drop k))) (fun _ i _ => l.length - (intOf i).toNat)
  case atStart => exact ⟨0, by omega, rfl, (Below.refl _ _).alloc (Nat.le_refl _) _, Lib.hid ⟨by rw [World.cell?_alloc_new]; rfl, by rw [World.cell?_alloc_new]; rfl, by rw [World.cell?_alloc_new]; rfl⟩, HE⟩
  case round =>
    clear HE
    obtain ⟨k, hk, rfl, hB, hG, hE⟩ := hrel
    by_cases hlt : k < l.length
    · obtain ⟨rfl, hbw, hFb⟩ := C2.out (by omega)
      obtain ⟨vb, hn1, hn2, hbd, hw1, hw2⟩ := C3.out k hlt
      have hc1 := bkeep hB hn1
      have hc2 := bkeep hB hn2
      have HWD := Lib.hid (fun h1 => Gr.errP_wide (t := t) (n := n) (l := l) hlt h1)
      have HBAD := Lib.hid (fun h1 h2 => Gr.errP_bad (t := t) (n := n) (l := l) hlt h1 h2)
      have HNX := Lib.hid (fun h1 h2 => Gr.errP_next (t := t) (n := n) (l := l) hlt h1 h2)
      generalize l.getD k (0, []) = p at *
      obtain ⟨hd, bd⟩ := p
      simp only at hc1 hc2 hbd hw1 hw2
      obtain ⟨ao2, b2, off2, cap2, hvb, hx⟩ := id hbd
      clear hx
      simp only [List.cons.injEq, and_true] at hvb
      subst hvb
      have HBD := Lib.hid hbd
      clear hn1 hn2 hbd
      have hB2 : ∀ o, Below w.heap.size w (wr.alloc o) := fun o => hB.alloc hB.size o
      have hGl := hG.out.lt
      obtain ⟨hg0, hg1, hg2⟩ := id hG.out
      by_cases hwd : 8 < bd.length
      · have HE : Hid (Gr.err t n l = 2) := Lib.hid (by rw [hE.out]; exact HWD.out hwd)
        go_wp2
        go_ret
        exact ⟨by rw [HE.out]; rfl, hB2 _⟩
      by_cases hh1 : hd < 0
      · have HE : Hid (Gr.err t n l = 1) := Lib.hid (by rw [hE.out]; exact HBAD.out hwd (.inl hh1))
        go_wp2
        go_ret
        exact ⟨by rw [HE.out]; rfl, hB2 _⟩
      by_cases hh2 : n ≤ hd
      · have HE : Hid (Gr.err t n l = 1) := Lib.hid (by rw [hE.out]; exact HBAD.out hwd (.inr (.inl hh2)))
        go_wp2
        go_ret
        exact ⟨by rw [HE.out]; rfl, hB2 _⟩
      cases ha : bd.any (fun x => !Gr.right t n x)
      · have HA := Lib.hid ha
        have HX : Hid (Gr.err t n l = Gr.errP t n (l.drop (k + 1))) := Lib.hid (by rw [hE.out]; exact HNX.out hwd (by simp only []; rw [ha]; simp; omega))
        clear ha
        go_wp2_with (go_at_call 137; refine (badSymIn_any t n _ w.heap.size bd _ _ F (Enc.mono _ HBD.out (fun _ h => h) (fun b hb => (hB2 _).block b (hF b hb))) (hG.out.below ((Below.refl _ _).alloc (Nat.le_refl _) _) hGl)).mono ?_; rintro e w9 ⟨rfl, hb9⟩; rw [HA.out])
        go_roundw
        case rel => exact ⟨k + 1, by omega, by go_num, (hB2 _).trans (hb9.mono (hB2 _).size), Lib.hid ((hG.out.below ((Below.refl _ _).alloc (Nat.le_refl _) _) hGl).below hb9 (by simp; omega)), HX⟩
        case measure => simp [intOf]; omega
      · have HA := Lib.hid ha
        have HE : Hid (Gr.err t n l = 1) := Lib.hid (by rw [hE.out]; exact HBAD.out hwd (.inr (.inr ha)))
        clear ha
        go_wp2_with (go_at_call 137; refine (badSymIn_any t n _ w.heap.size bd _ _ F (Enc.mono _ HBD.out (fun _ h => h) (fun b hb => (hB2 _).block b (hF b hb))) (hG.out.below ((Below.refl _ _).alloc (Nat.le_refl _) _) hGl)).mono ?_; rintro e w9 ⟨rfl, hb9⟩; rw [HA.out])
        go_ret
        exact ⟨by rw [HE.out]; rfl, (hB2 _).trans (hb9.mono (hB2 _).size)⟩
    · obtain rfl : k = l.length := by omega
      have HE : Hid (Gr.err t n l = 0) := Lib.hid (by rw [hE.out]; exact Gr.errP_end)
      go_wp2
      go_ret
      exact ⟨by rw [HE.out]; rfl, hB⟩

set_option maxRecDepth 100000 in
set_option maxHeartbeats 8000000 in
theorem rcfg_any (t n : Int) (vp : Value) (l : List (Int × List (Int × Int))) (w : World) (F : Nat → Prop) (hF : ∀ b, F b → b < w.heap.size) (h : Enc.prods.R F w [vp] l) :
    Calls Try.prog 38 #[.agg #[.int .i64 t, .int .i64 n, vp]] w fun e w' => e = .returned (.int .i64 (Gr.err t n l)) ∧ Below w.heap.size w w' := by
  obtain ⟨ao, b, off, cap, rfl, hl, c2, c3⟩ := slProds h
  have C2 := Lib.hid c2; have C3 := Lib.hid c3
  clear c2 c3 h hl
  by_cases h1 : t < 0
  · have HE := Lib.hid (Gr.err_arg (t := t) (n := n) (l := l) (by omega))
    go_enter Try.func38, Try.ntmps38
    go_wp2
    go_ret
    exact ⟨by rw [HE.out]; rfl, (Below.refl _ _).alloc (Nat.le_refl _) _⟩
  by_cases h2 : 30 < t
  · have HE := Lib.hid (Gr.err_arg (t := t) (n := n) (l := l) (by omega))
    go_enter Try.func38, Try.ntmps38
    go_wp2
    go_ret
    exact ⟨by rw [HE.out]; rfl, (Below.refl _ _).alloc (Nat.le_refl _) _⟩
  by_cases h3 : n < 1
  · have HE := Lib.hid (Gr.err_arg (t := t) (n := n) (l := l) (by omega))
    go_enter Try.func38, Try.ntmps38
    go_wp2
    go_ret
    exact ⟨by rw [HE.out]; rfl, (Below.refl _ _).alloc (Nat.le_refl _) _⟩
  by_cases h4 : 20 < n
  · have HE := Lib.hid (Gr.err_arg (t := t) (n := n) (l := l) (by omega))
    go_enter Try.func38, Try.ntmps38
    go_wp2
    go_ret
    exact ⟨by rw [HE.out]; rfl, (Below.refl _ _).alloc (Nat.le_refl _) _⟩
  by_cases h5 : 40 < l.length
  · have HE := Lib.hid (Gr.err_large (t := t) (n := n) (l := l) (by omega) h5)
    go_enter Try.func38, Try.ntmps38
    go_wp2
    go_ret
    exact ⟨by rw [HE.out]; rfl, (Below.refl _ _).alloc (Nat.le_refl _) _⟩
  have HE := Lib.hid (Gr.err_go (t := t) (n := n) (l := l) (by omega) h5)
  go_enter Try.func38, Try.ntmps38
  go_wp2
  go_loopw [3, 4, 5] (fun i _ _ wr => ∃ k : Nat, k ≤ l.length ∧ i = .int .i64 k ∧ Below w.heap.size w wr ∧ Hid (GrBox wr w.heap.size t n (.slice ao l.length cap)) ∧ Hid (Gr.err t n l = Gr.errP t n (l.drop k))) (fun i _ _ _ => l.length - (intOf i).toNat)
  case atStart => exact ⟨0, by omega, rfl, (Below.refl _ _).alloc (Nat.le_refl _) _, Lib.hid ⟨by rw [World.cell?_alloc_new]; rfl, by rw [World.cell?_alloc_new]; rfl, by rw [World.cell?_alloc_new]; rfl⟩, HE⟩
  case round =>
    clear HE
    obtain ⟨k, hk, rfl, hB, hG, hE⟩ := hrel
    obtain ⟨hg0, hg1, hg2⟩ := id hG.out
    by_cases hlt : k < l.length
    · obtain ⟨rfl, hbw, hFb⟩ := C2.out (by omega)
      obtain ⟨vb, hn1, hn2, hbd, hw1, hw2⟩ := C3.out k hlt
      have hc1 := bkeep hB hn1
      have hc2 := bkeep hB hn2
      have HWD := Lib.hid (fun h1 => Gr.errP_wide (t := t) (n := n) (l := l) hlt h1)
      have HBAD := Lib.hid (fun h1 h2 => Gr.errP_bad (t := t) (n := n) (l := l) hlt h1 h2)
      have HNX := Lib.hid (fun h1 h2 => Gr.errP_next (t := t) (n := n) (l := l) hlt h1 h2)
      generalize l.getD k (0, []) = p at *
      obtain ⟨hd, bd⟩ := p
      simp only at hc1 hc2 hbd hw1 hw2
      obtain ⟨ao2, b2, off2, cap2, hvb, _, k3, k4⟩ := slTwo hbd
      subst hvb
      have K3 := Lib.hid k3; have K4 := Lib.hid k4
      clear hn1 hn2 hbd k3 k4
      have hB2 : Hid (∀ o, Below w.heap.size w (wr.alloc o)) := Lib.hid (fun o => hB.alloc hB.size o)
      have hGl := hG.out.lt
      by_cases hwd : 8 < bd.length
      · have HE : Hid (Gr.err t n l = 2) := Lib.hid (by rw [hE.out]; exact HWD.out hwd)
        go_wp2
        go_ret
        exact ⟨by rw [HE.out]; rfl, hB2.out _⟩
      by_cases hh : hd < 0 ∨ n ≤ hd
      · have HE : Hid (Gr.err t n l = 1) := Lib.hid (by rw [hE.out]; exact HBAD.out hwd (by simp only []; omega))
        have HR := Lib.hid (Gr.right_no (t := t) (n := n) (x := (2, hd)) (by simp only []; omega))
        clear hh
        go_wp2_with (go_at_call 35; refine (rightSym_any t n _ 2 hd _).mono ?_; rintro e w9 ⟨rfl, hb9⟩; rw [HR.out])
        go_ret
        exact ⟨by rw [HE.out]; rfl, (hB2.out _).trans (hb9.mono (hB2.out _).size)⟩
      have HR := Lib.hid (Gr.right_yes (t := t) (n := n) (x := (2, hd)) (.inr ⟨rfl, (by omega : 0 ≤ hd), (by omega : hd < n)⟩))
      go_wp2_with (go_at_call 35; refine (rightSym_any t n _ 2 hd _).mono ?_; rintro e w9 ⟨rfl, hb9⟩; rw [HR.out])
      have hB9 := (hB2.out _).trans (hb9.mono (hB2.out _).size)
      have hG9 : GrBox w9 w.heap.size t n (.slice (some ⟨b, off, none⟩) l.length cap) := (hG.out.below ((Below.refl _ _).alloc (Nat.le_refl _) _) hGl).below hb9 (Nat.lt_of_lt_of_le hGl (by simp))
      have hp9 : w9.cell? ⟨wr.heap.size, 1, none⟩ = some (.slice ao2 bd.length cap2) := bkeep hb9 (by rw [World.cell?_alloc_new]; rfl)
      have hpl : wr.heap.size < w9.heap.size := World.block_lt_of_cell? w9 _ hp9
      clear hb9 hc1 hc2 hg0 hg1 hg2
      generalize wr.heap.size = X at *
      have HG9 := Lib.hid hG9; clear hG9
      go_loopw [5] (fun j w2 => ∃ q : Nat, q ≤ bd.length ∧ j = .int .i64 q ∧ Below w9.heap.size w9 w2 ∧ Hid (∀ i, i < q → (!Gr.right t n (bd.getD i (0, 0))) = false)) (fun j _ => bd.length - (intOf j).toNat)
      case atStart => exact ⟨0, by omega, rfl, Below.refl _ _, Lib.hid (fun i hi => absurd hi (by omega))⟩
      case round =>
        obtain ⟨q, hq, rfl, hB3, hok⟩ := hrel
        have hp3 := bkeep hB3 hp9
        by_cases hql : q < bd.length
        · obtain ⟨rfl, hb2w, _⟩ := K3.out (by omega)
          have hs1 := (K4.out q hql).1
          have hs2 := (K4.out q hql).2.1
          have HBK : Hid ((!Gr.right t n (bd.getD q (0, 0))) = true → Gr.err t n l = 1) := Lib.hid (fun h => by rw [hE.out]; exact HBAD.out hwd (.inr (.inr (any_some' hql h))))
          have HOK : Hid ((!Gr.right t n (bd.getD q (0, 0))) = false → ∀ i, i < q + 1 → (!Gr.right t n (bd.getD i (0, 0))) = false) := Lib.hid (fun h i hi => by
            rcases Nat.lt_succ_iff_lt_or_eq.1 hi with hi | rfl
            · exact hok.out i hi
            · exact h)
          generalize bd.getD q (0, 0) = y at *
          obtain ⟨y1, y2⟩ := y
          simp only at hs1 hs2
          have hB4 := hB9.trans (hB3.mono hB9.size)
          have HK : Hid (∀ W', Below w9.heap.size w9 W' → W'.cell? ⟨w.heap.size, 0, none⟩ = some (.int .i64 t) ∧ W'.cell? ⟨w.heap.size, 1, none⟩ = some (.int .i64 n) ∧ W'.cell? ⟨w.heap.size, 2, none⟩ = some (.slice (some ⟨b, off, none⟩) l.length cap) ∧ W'.cell? ⟨X, 1, none⟩ = some (.slice (some ⟨b2, off2, none⟩) bd.length cap2) ∧
            W'.cell? ⟨b2, off2 + q * 2, none⟩ = some (.int .i64 y1) ∧ W'.cell? ⟨b2, off2 + q * 2 + 1, none⟩ = some (.int .i64 y2) ∧ Below w9.heap.size w9 W') := Lib.hid (fun W' hW => by
              have h1 := HG9.out.below hW HG9.out.lt
              have h2 := hB9.trans (hW.mono hB9.size)
              exact ⟨h1.1, h1.2.1, h1.2.2, bkeep hW hp9, bkeep h2 hs1, bkeep h2 hs2, hW⟩)
          clear hs1 hs2
          cases hry : Gr.right t n (y1, y2)
          · have HRY := Lib.hid hry
            have HE : Hid (Gr.err t n l = 1) := Lib.hid (HBK.out (by rw [hry]; rfl))
            clear hry
            go_wp2
            go_region_held3 (fun w' => w'.cell? ⟨w.heap.size, 0, none⟩ = some (.int .i64 t) ∧ w'.cell? ⟨w.heap.size, 1, none⟩ = some (.int .i64 n) ∧ w'.cell? ⟨w.heap.size, 2, none⟩ = some (.slice (some ⟨b, off, none⟩) l.length cap) ∧ w'.cell? ⟨X, 1, none⟩ = some (.slice (some ⟨b2, off2, none⟩) bd.length cap2) ∧
              w'.cell? ⟨b2, off2 + q * 2, none⟩ = some (.int .i64 y1) ∧ w'.cell? ⟨b2, off2 + q * 2 + 1, none⟩ = some (.int .i64 y2) ∧ Below w9.heap.size w9 w') (first | exact HK.out _ hB3 | exact HK.out _ hB3.drew)
              ((go_at_call 35; have hh := ‹_ ∧ _ ∧ _ ∧ _ ∧ _ ∧ _ ∧ Below w9.heap.size w9 _›; refine (rightSym_any t n _ y1 y2 _).mono ?_; rintro e w5 ⟨rfl, hb5⟩; rw [HRY.out]; have hB3 := hh.2.2.2.2.2.2.trans (hb5.mono hh.2.2.2.2.2.2.size); clear hh hb5))
            go_wp2
            have hh := ‹_ ∧ _ ∧ _ ∧ _ ∧ _ ∧ _ ∧ Below w9.heap.size w9 _›
            go_ret
            exact ⟨by rw [HE.out]; rfl, hB9.trans (hh.2.2.2.2.2.2.mono hB9.size)⟩
          · have HRY := Lib.hid hry
            have HX := Lib.hid (HOK.out (by rw [hry]; rfl))
            clear hry
            go_wp2
            go_region_held3 (fun w' => w'.cell? ⟨w.heap.size, 0, none⟩ = some (.int .i64 t) ∧ w'.cell? ⟨w.heap.size, 1, none⟩ = some (.int .i64 n) ∧ w'.cell? ⟨w.heap.size, 2, none⟩ = some (.slice (some ⟨b, off, none⟩) l.length cap) ∧ w'.cell? ⟨X, 1, none⟩ = some (.slice (some ⟨b2, off2, none⟩) bd.length cap2) ∧
              w'.cell? ⟨b2, off2 + q * 2, none⟩ = some (.int .i64 y1) ∧ w'.cell? ⟨b2, off2 + q * 2 + 1, none⟩ = some (.int .i64 y2) ∧ Below w9.heap.size w9 w') (first | exact HK.out _ hB3 | exact HK.out _ hB3.drew)
              ((go_at_call 35; have hh := ‹_ ∧ _ ∧ _ ∧ _ ∧ _ ∧ _ ∧ Below w9.heap.size w9 _›; refine (rightSym_any t n _ y1 y2 _).mono ?_; rintro e w5 ⟨rfl, hb5⟩; rw [HRY.out]; have hB3 := hh.2.2.2.2.2.2.trans (hb5.mono hh.2.2.2.2.2.2.size); clear hh hb5))
            go_wp2
            have hh := ‹_ ∧ _ ∧ _ ∧ _ ∧ _ ∧ _ ∧ Below w9.heap.size w9 _›
            go_roundw
            case rel => exact ⟨q + 1, by omega, by go_num, hh.2.2.2.2.2.2, HX⟩
            case measure => simp [intOf]; omega
        · obtain rfl : q = bd.length := by omega
          have HX : Hid (Gr.err t n l = Gr.errP t n (l.drop (k + 1))) := Lib.hid (by rw [hE.out]; exact HNX.out hwd (by rw [any_none' hok.out]; simp; omega))
          go_wp2
          go_roundw
          case rel => exact ⟨k + 1, by omega, by go_num, hB9.trans (hB3.mono hB9.size), Lib.hid (HG9.out.below hB3 HG9.out.lt), HX⟩
          case measure => simp [intOf]; omega
    · obtain rfl : k = l.length := by omega
      have HE : Hid (Gr.err t n l = 0) := Lib.hid (by rw [hE.out]; exact Gr.errP_end)
      go_wp2
      go_ret
      exact ⟨by rw [HE.out]; rfl, hB⟩
end Go.Proofs.Ytahoapgmiecphaa

/-
  A table as data; what is wrong with it: lr.Check and RightTable of the reference.
-/
namespace Go.Proofs.Ytahoapgmiecphaa
set_option linter.unusedVariables false
open Go.ChangeShapes Go.WideShapes Go.ChangeAt Go.RowKit

/-- A slice of slices. -/
theorem slSl {α : Type} {E : Enc α} {b1 b2 : Nat} {F : Nat → Prop} {w : World} {v : Value} {l : List (List α)} (h : ((E.sl b1).sl b2).R F w [v] l) :
    ∃ (ao : Option Addr) (b off cap : Nat), v = .slice ao l.length cap ∧ (l.length : Int) * b2 ≤ 140737488355328 ∧ (0 < l.length → ao = some ⟨b, off, none⟩ ∧ b < w.heap.size ∧ F b) ∧
      ∀ i, i < l.length → ∃ ai ci, w.cell? ⟨b, off + i, none⟩ = some (.slice ai (l.getD i []).length ci) ∧ (E.sl b1).R F w [.slice ai (l.getD i []).length ci] (l.getD i []) := by
  obtain ⟨ao, b, off, cap, h0, h1, h2, h3⟩ := Enc.slN [] h
  refine ⟨ao, b, off, cap, h0, h1, h2, fun i hi => ?_⟩
  obtain ⟨cs, _, g2, g3⟩ := h3 i hi
  have g4 := g3
  obtain ⟨ai, _, _, ci, rfl, _⟩ := g4
  refine ⟨ai, ci, ?_, g3⟩
  have := g2 0 (by show 0 < 1; decide)
  simpa [Enc.sl] using this

namespace Tb
def right (t : Int) (np m : Nat) (x : Int × Int) (c : Int) : Bool :=
  decide (x.1 = 0 ∧ x.2 = 0) || decide (x.1 = 1 ∧ c < t ∧ 0 ≤ x.2 ∧ x.2 < m) || decide (x.1 = 2 ∧ 0 ≤ x.2 ∧ x.2 < np) || decide (x.1 = 3 ∧ x.2 = 0 ∧ c = t)
theorem right_iff {t : Int} {np m : Nat} {x : Int × Int} {c : Int} : right t np m x c = true ↔ (x.1 = 0 ∧ x.2 = 0) ∨ (x.1 = 1 ∧ c < t ∧ 0 ≤ x.2 ∧ x.2 < m) ∨ (x.1 = 2 ∧ 0 ≤ x.2 ∧ x.2 < np) ∨ (x.1 = 3 ∧ x.2 = 0 ∧ c = t) := by
  simp only [right, Bool.or_eq_true, decide_eq_true_eq, or_assoc]
theorem right_no {t : Int} {np m : Nat} {x : Int × Int} {c : Int} (h : ¬ ((x.1 = 0 ∧ x.2 = 0) ∨ (x.1 = 1 ∧ c < t ∧ 0 ≤ x.2 ∧ x.2 < m) ∨ (x.1 = 2 ∧ 0 ≤ x.2 ∧ x.2 < np) ∨ (x.1 = 3 ∧ x.2 = 0 ∧ c = t))) : right t np m x c = false := by
  cases hr : right t np m x c
  · rfl
  · exact absurd (right_iff.1 hr) h
def rowGood (t : Int) (np m : Nat) (row : List (Int × Int)) : Prop := ∀ c, c < row.length → right t np m (row.getD c (0, 0)) c = true
def goGood (m : Nat) (row : List Int) : Prop := ∀ c, c < row.length → -1 ≤ row.getD c 0 ∧ row.getD c 0 < m
def At (t n : Int) (np m : Nat) (a : List (Int × Int)) (g : List Int) : Prop := (a.length : Int) = t + 1 ∧ (g.length : Int) = n ∧ rowGood t np m a ∧ goGood m g
def Good (t n : Int) (np : Nat) (acts : List (List (Int × Int))) (gts : List (List Int)) : Prop := ∀ i, i < acts.length → At t n np acts.length (acts.getD i []) (gts.getD i [])
open Classical in
noncomputable def err (t n : Int) (np : Nat) (acts : List (List (Int × Int))) (gts : List (List Int)) : Int :=
  if 200 < acts.length then 2 else if acts.length = 0 ∨ gts.length ≠ acts.length then 1 else if Good t n np acts gts then 0 else 1
theorem err_large {t n np acts gts} (h : 200 < acts.length) : err t n np acts gts = 2 := by rw [err, if_pos h]
theorem err_arg {t n np acts gts} (h : ¬ 200 < acts.length) (h1 : acts.length = 0 ∨ gts.length ≠ acts.length) : err t n np acts gts = 1 := by rw [err, if_neg h, if_pos h1]
theorem err_bad {t n np acts gts} (h : ¬ 200 < acts.length) (h1 : ¬ Good t n np acts gts) : err t n np acts gts = 1 := by
  rw [err, if_neg h]
  by_cases h2 : acts.length = 0 ∨ gts.length ≠ acts.length
  · rw [if_pos h2]
  · rw [if_neg h2, if_neg h1]
theorem err_ok {t n np acts gts} (h : ¬ 200 < acts.length) (h1 : ¬ (acts.length = 0 ∨ gts.length ≠ acts.length)) (h2 : Good t n np acts gts) : err t n np acts gts = 0 := by rw [err, if_neg h, if_neg h1, if_pos h2]
end Tb
attribute [irreducible] Tb.right Tb.err

set_option maxRecDepth 100000 in
set_option maxHeartbeats 8000000 in
theorem lrRight_any (t n : Int) (np m : Nat) (aop aoa : Option Addr) (cp ca : Nat) (vg : Value) (x1 x2 c : Int) (w : World) (ht0 : 0 ≤ t) (ht1 : t ≤ 30) (hnp : np ≤ 40) (hm : m ≤ 200) :
    Calls Try.prog 150 #[.agg #[.int .i64 t, .int .i64 n, .slice aop np cp], .agg #[.slice aoa m ca, vg], .agg #[.int .i64 x1, .int .i64 x2], .int .i64 c] w fun e w' => e = .returned (.bool (Tb.right t np m (x1, x2) c)) ∧ Below w.heap.size w w' := by
  rcases (by omega : (x1 = 0 ∧ x2 = 0) ∨ (x1 = 0 ∧ x2 ≠ 0) ∨ (x1 = 1 ∧ t ≤ c) ∨ (x1 = 1 ∧ c < t ∧ x2 < 0) ∨ (x1 = 1 ∧ c < t ∧ 0 ≤ x2 ∧ (m : Int) ≤ x2) ∨ (x1 = 1 ∧ c < t ∧ 0 ≤ x2 ∧ x2 < (m : Int)) ∨ (x1 = 2 ∧ x2 < 0) ∨ (x1 = 2 ∧ 0 ≤ x2 ∧ (np : Int) ≤ x2) ∨ (x1 = 2 ∧ 0 ≤ x2 ∧ x2 < (np : Int)) ∨ (x1 = 3 ∧ x2 ≠ 0) ∨ (x1 = 3 ∧ x2 = 0 ∧ c ≠ t) ∨ (x1 = 3 ∧ x2 = 0 ∧ c = t) ∨ (x1 ≠ 0 ∧ x1 ≠ 1 ∧ x1 ≠ 2 ∧ x1 ≠ 3)) with ⟨p0, p1⟩ | ⟨p0, p1⟩ | ⟨p0, p1⟩ | ⟨p0, p1, p2⟩ | ⟨p0, p1, p2, p3⟩ | ⟨p0, p1, p2, p3⟩ | ⟨p0, p1⟩ | ⟨p0, p1, p2⟩ | ⟨p0, p1, p2⟩ | ⟨p0, p1⟩ | ⟨p0, p1, p2⟩ | ⟨p0, p1, p2⟩ | ⟨p0, p1, p2, p3⟩
  · have HR : Hid (Tb.right t np m (x1, x2) c = true) := Lib.hid (by rw [Tb.right_iff]; simp only []; omega)
    have e0 : ((x1 : Int) == 0) = true := by rw [beq_iff_eq]; omega
    have e1 : ((x1 : Int) == 1) = false := by rw [beq_eq_false_iff_ne]; omega
    have e2 : ((x1 : Int) == 2) = false := by rw [beq_eq_false_iff_ne]; omega
    have e3 : ((x1 : Int) == 3) = false := by rw [beq_eq_false_iff_ne]; omega
    have n0 : ((x2 : Int) == 0) = true := by rw [beq_iff_eq]; omega
    clear p0 p1
    go_enter Try.func150, Try.ntmps150
    go_wp2
    go_ret
    exact ⟨by rw [HR.out]; rfl, (((Below.refl _ _).alloc (Nat.le_refl _) _).alloc (by simp) _).alloc (by simp; omega) _⟩
  · have HR : Hid (Tb.right t np m (x1, x2) c = false) := Lib.hid (by refine Tb.right_no ?_; simp only []; omega)
    have e0 : ((x1 : Int) == 0) = true := by rw [beq_iff_eq]; omega
    have e1 : ((x1 : Int) == 1) = false := by rw [beq_eq_false_iff_ne]; omega
    have e2 : ((x1 : Int) == 2) = false := by rw [beq_eq_false_iff_ne]; omega
    have e3 : ((x1 : Int) == 3) = false := by rw [beq_eq_false_iff_ne]; omega
    have n0 : ((x2 : Int) == 0) = false := by rw [beq_eq_false_iff_ne]; omega
    clear p0 p1
    go_enter Try.func150, Try.ntmps150
    go_wp2
    go_ret
    exact ⟨by rw [HR.out]; rfl, (((Below.refl _ _).alloc (Nat.le_refl _) _).alloc (by simp) _).alloc (by simp; omega) _⟩
  · have HR : Hid (Tb.right t np m (x1, x2) c = false) := Lib.hid (by refine Tb.right_no ?_; simp only []; omega)
    have e0 : ((x1 : Int) == 0) = false := by rw [beq_eq_false_iff_ne]; omega
    have e1 : ((x1 : Int) == 1) = true := by rw [beq_iff_eq]; omega
    have e2 : ((x1 : Int) == 2) = false := by rw [beq_eq_false_iff_ne]; omega
    have e3 : ((x1 : Int) == 3) = false := by rw [beq_eq_false_iff_ne]; omega
    clear p0
    go_enter Try.func150, Try.ntmps150
    go_wp2
    go_ret
    exact ⟨by rw [HR.out]; rfl, (((Below.refl _ _).alloc (Nat.le_refl _) _).alloc (by simp) _).alloc (by simp; omega) _⟩
  · have HR : Hid (Tb.right t np m (x1, x2) c = false) := Lib.hid (by refine Tb.right_no ?_; simp only []; omega)
    have e0 : ((x1 : Int) == 0) = false := by rw [beq_eq_false_iff_ne]; omega
    have e1 : ((x1 : Int) == 1) = true := by rw [beq_iff_eq]; omega
    have e2 : ((x1 : Int) == 2) = false := by rw [beq_eq_false_iff_ne]; omega
    have e3 : ((x1 : Int) == 3) = false := by rw [beq_eq_false_iff_ne]; omega
    clear p0
    go_enter Try.func150, Try.ntmps150
    go_wp2
    go_ret
    exact ⟨by rw [HR.out]; rfl, (((Below.refl _ _).alloc (Nat.le_refl _) _).alloc (by simp) _).alloc (by simp; omega) _⟩
  · have HR : Hid (Tb.right t np m (x1, x2) c = false) := Lib.hid (by refine Tb.right_no ?_; simp only []; omega)
    have e0 : ((x1 : Int) == 0) = false := by rw [beq_eq_false_iff_ne]; omega
    have e1 : ((x1 : Int) == 1) = true := by rw [beq_iff_eq]; omega
    have e2 : ((x1 : Int) == 2) = false := by rw [beq_eq_false_iff_ne]; omega
    have e3 : ((x1 : Int) == 3) = false := by rw [beq_eq_false_iff_ne]; omega
    have dm : decide (x2 < (m : Int)) = false := by rw [decide_eq_false_iff_not]; omega
    clear p0
    go_enter Try.func150, Try.ntmps150
    go_wp2
    go_ret
    exact ⟨by rw [HR.out]; rfl, (((Below.refl _ _).alloc (Nat.le_refl _) _).alloc (by simp) _).alloc (by simp; omega) _⟩
  · have HR : Hid (Tb.right t np m (x1, x2) c = true) := Lib.hid (by rw [Tb.right_iff]; simp only []; omega)
    have e0 : ((x1 : Int) == 0) = false := by rw [beq_eq_false_iff_ne]; omega
    have e1 : ((x1 : Int) == 1) = true := by rw [beq_iff_eq]; omega
    have e2 : ((x1 : Int) == 2) = false := by rw [beq_eq_false_iff_ne]; omega
    have e3 : ((x1 : Int) == 3) = false := by rw [beq_eq_false_iff_ne]; omega
    clear p0
    go_enter Try.func150, Try.ntmps150
    go_wp2
    go_ret
    exact ⟨by rw [HR.out]; rfl, (((Below.refl _ _).alloc (Nat.le_refl _) _).alloc (by simp) _).alloc (by simp; omega) _⟩
  · have HR : Hid (Tb.right t np m (x1, x2) c = false) := Lib.hid (by refine Tb.right_no ?_; simp only []; omega)
    have e0 : ((x1 : Int) == 0) = false := by rw [beq_eq_false_iff_ne]; omega
    have e1 : ((x1 : Int) == 1) = false := by rw [beq_eq_false_iff_ne]; omega
    have e2 : ((x1 : Int) == 2) = true := by rw [beq_iff_eq]; omega
    have e3 : ((x1 : Int) == 3) = false := by rw [beq_eq_false_iff_ne]; omega
    clear p0
    go_enter Try.func150, Try.ntmps150
    go_wp2
    go_ret
    exact ⟨by rw [HR.out]; rfl, (((Below.refl _ _).alloc (Nat.le_refl _) _).alloc (by simp) _).alloc (by simp; omega) _⟩
  · have HR : Hid (Tb.right t np m (x1, x2) c = false) := Lib.hid (by refine Tb.right_no ?_; simp only []; omega)
    have e0 : ((x1 : Int) == 0) = false := by rw [beq_eq_false_iff_ne]; omega
    have e1 : ((x1 : Int) == 1) = false := by rw [beq_eq_false_iff_ne]; omega
    have e2 : ((x1 : Int) == 2) = true := by rw [beq_iff_eq]; omega
    have e3 : ((x1 : Int) == 3) = false := by rw [beq_eq_false_iff_ne]; omega
    have dm : decide (x2 < (np : Int)) = false := by rw [decide_eq_false_iff_not]; omega
    clear p0
    go_enter Try.func150, Try.ntmps150
    go_wp2
    go_ret
    exact ⟨by rw [HR.out]; rfl, (((Below.refl _ _).alloc (Nat.le_refl _) _).alloc (by simp) _).alloc (by simp; omega) _⟩
  · have HR : Hid (Tb.right t np m (x1, x2) c = true) := Lib.hid (by rw [Tb.right_iff]; simp only []; omega)
    have e0 : ((x1 : Int) == 0) = false := by rw [beq_eq_false_iff_ne]; omega
    have e1 : ((x1 : Int) == 1) = false := by rw [beq_eq_false_iff_ne]; omega
    have e2 : ((x1 : Int) == 2) = true := by rw [beq_iff_eq]; omega
    have e3 : ((x1 : Int) == 3) = false := by rw [beq_eq_false_iff_ne]; omega
    clear p0
    go_enter Try.func150, Try.ntmps150
    go_wp2
    go_ret
    exact ⟨by rw [HR.out]; rfl, (((Below.refl _ _).alloc (Nat.le_refl _) _).alloc (by simp) _).alloc (by simp; omega) _⟩
  · have HR : Hid (Tb.right t np m (x1, x2) c = false) := Lib.hid (by refine Tb.right_no ?_; simp only []; omega)
    have e0 : ((x1 : Int) == 0) = false := by rw [beq_eq_false_iff_ne]; omega
    have e1 : ((x1 : Int) == 1) = false := by rw [beq_eq_false_iff_ne]; omega
    have e2 : ((x1 : Int) == 2) = false := by rw [beq_eq_false_iff_ne]; omega
    have e3 : ((x1 : Int) == 3) = true := by rw [beq_iff_eq]; omega
    have n0 : ((x2 : Int) == 0) = false := by rw [beq_eq_false_iff_ne]; omega
    clear p0 p1
    go_enter Try.func150, Try.ntmps150
    go_wp2
    go_ret
    exact ⟨by rw [HR.out]; rfl, (((Below.refl _ _).alloc (Nat.le_refl _) _).alloc (by simp) _).alloc (by simp; omega) _⟩
  · have HR : Hid (Tb.right t np m (x1, x2) c = false) := Lib.hid (by refine Tb.right_no ?_; simp only []; omega)
    have e0 : ((x1 : Int) == 0) = false := by rw [beq_eq_false_iff_ne]; omega
    have e1 : ((x1 : Int) == 1) = false := by rw [beq_eq_false_iff_ne]; omega
    have e2 : ((x1 : Int) == 2) = false := by rw [beq_eq_false_iff_ne]; omega
    have e3 : ((x1 : Int) == 3) = true := by rw [beq_iff_eq]; omega
    have n0 : ((x2 : Int) == 0) = true := by rw [beq_iff_eq]; omega
    have ct : ((c : Int) == t) = false := by rw [beq_eq_false_iff_ne]; omega
    clear p0 p1 p2
    go_enter Try.func150, Try.ntmps150
    go_wp2
    go_ret
    exact ⟨by rw [HR.out]; rfl, (((Below.refl _ _).alloc (Nat.le_refl _) _).alloc (by simp) _).alloc (by simp; omega) _⟩
  · have HR : Hid (Tb.right t np m (x1, x2) c = true) := Lib.hid (by rw [Tb.right_iff]; simp only []; omega)
    have e0 : ((x1 : Int) == 0) = false := by rw [beq_eq_false_iff_ne]; omega
    have e1 : ((x1 : Int) == 1) = false := by rw [beq_eq_false_iff_ne]; omega
    have e2 : ((x1 : Int) == 2) = false := by rw [beq_eq_false_iff_ne]; omega
    have e3 : ((x1 : Int) == 3) = true := by rw [beq_iff_eq]; omega
    have n0 : ((x2 : Int) == 0) = true := by rw [beq_iff_eq]; omega
    have ct : ((c : Int) == t) = true := by rw [beq_iff_eq]; omega
    clear p0 p1 p2
    go_enter Try.func150, Try.ntmps150
    go_wp2
    go_ret
    exact ⟨by rw [HR.out]; rfl, (((Below.refl _ _).alloc (Nat.le_refl _) _).alloc (by simp) _).alloc (by simp; omega) _⟩
  · have HR : Hid (Tb.right t np m (x1, x2) c = false) := Lib.hid (by refine Tb.right_no ?_; simp only []; omega)
    have e0 : ((x1 : Int) == 0) = false := by rw [beq_eq_false_iff_ne]; omega
    have e1 : ((x1 : Int) == 1) = false := by rw [beq_eq_false_iff_ne]; omega
    have e2 : ((x1 : Int) == 2) = false := by rw [beq_eq_false_iff_ne]; omega
    have e3 : ((x1 : Int) == 3) = false := by rw [beq_eq_false_iff_ne]; omega
    clear p0 p1 p2 p3
    go_enter Try.func150, Try.ntmps150
    go_wp2
    go_ret
    exact ⟨by rw [HR.out]; rfl, (((Below.refl _ _).alloc (Nat.le_refl _) _).alloc (by simp) _).alloc (by simp; omega) _⟩

end Go.Proofs.Ytahoapgmiecphaa

/-
  ll.Check: what is wrong with a table of rows.
-/
namespace Go.Proofs.Ytahoapgmiecphaa
set_option linter.unusedVariables false
open Go.ChangeShapes Go.WideShapes Go.ChangeAt Go.RowKit

namespace Rw
def good (l : List (Int × List (Int × Int))) (p : Int) (k : Nat) : Prop := -1 ≤ p ∧ p < l.length ∧ (0 ≤ p → (l.getD p.toNat (0, [])).1 = k)
def At (t : Int) (l : List (Int × List (Int × Int))) (row : List Int) (k : Nat) : Prop := (row.length : Int) = t + 1 ∧ ∀ c, c < row.length → good l (row.getD c 0) k
def Good (t : Int) (l : List (Int × List (Int × Int))) (rows : List (List Int)) : Prop := ∀ k, k < rows.length → At t l (rows.getD k []) k
open Classical in
noncomputable def err (t n : Int) (l : List (Int × List (Int × Int))) (rows : List (List Int)) : Int :=
  if (rows.length : Int) ≠ n then 1 else if Good t l rows then 0 else 1
theorem err_len {t n l rows} (h : (rows.length : Int) ≠ n) : err t n l rows = 1 := by rw [err, if_pos h]
theorem err_bad {t n l rows} (h : ¬ Good t l rows) : err t n l rows = 1 := by
  rw [err]
  by_cases h2 : (rows.length : Int) ≠ n
  · rw [if_pos h2]
  · rw [if_neg h2, if_neg h]
theorem err_ok {t n l rows} (h : (rows.length : Int) = n) (h2 : Good t l rows) : err t n l rows = 0 := by rw [err, if_neg (by omega), if_pos h2]
open Classical in
noncomputable def all (t n : Int) (l : List (Int × List (Int × Int))) (rows : List (List Int)) : Int := if Gr.err t n l ≠ 0 then Gr.err t n l else err t n l rows
theorem all_ne {t n l rows} (h : Gr.err t n l ≠ 0) : all t n l rows = Gr.err t n l := by rw [all, if_pos h]
theorem all_go {t n l rows} (h : Gr.err t n l = 0) : all t n l rows = err t n l rows := by rw [all, if_neg (by omega)]
end Rw
attribute [irreducible] Rw.err Rw.all

set_option maxRecDepth 100000 in
set_option maxHeartbeats 8000000 in
theorem llCheck_any (t n : Int) (vp vr : Value) (l : List (Int × List (Int × Int))) (rows : List (List Int)) (w : World) (F : Nat → Prop) (hF : ∀ b, F b → b < w.heap.size) (h : Enc.prods.R F w [vp] l)
    (hg : (((Enc.int .i64).sl 8).sl 24).R F w [vr] rows) :
    Calls Try.prog 123 #[.agg #[.int .i64 t, .int .i64 n, vp], vr] w fun e w' => e = .returned (.int .i64 (Rw.all t n l rows)) ∧ Below w.heap.size w w' := by
  have hB : Hid (∀ o, Below w.heap.size w (w.alloc o)) := Lib.hid (fun o => (Below.refl _ _).alloc (Nat.le_refl _) _)
  have HC : Hid (∀ o, Calls Try.prog 99 #[.agg #[.int .i64 t, .int .i64 n, vp]] (w.alloc o) fun e w' => e = .returned (.int .i64 (Gr.err t n l)) ∧ Below (w.alloc o).heap.size (w.alloc o) w') :=
    Lib.hid (fun o => cfgCheck_any t n vp l _ F (fun b hb => Nat.lt_of_lt_of_le (hF b hb) (hB.out o).size) (Enc.mono _ h (fun _ h => h) (fun b hb => (hB.out o).block b (hF b hb))))
  by_cases he : Gr.err t n l ≠ 0
  · have hne : (Gr.err t n l != 0) = true := by rw [bne_iff_ne]; exact he
    have HE := Lib.hid (Rw.all_ne (rows := rows) he)
    clear he h hg hF
    go_enter Try.func123, Try.ntmps123
    go_wp2_with (go_at_call 99; refine (HC.out _).mono ?_; rintro e w1 ⟨rfl, hb1⟩)
    go_ret
    exact ⟨by rw [HE.out]; rfl, (hB.out _).trans (hb1.mono (hB.out _).size)⟩
  have he : Gr.err t n l = 0 := Decidable.not_not.1 he
  obtain ⟨ht0, ht1, hn0, hn1, hll, _⟩ := Gr.err_zero he
  have HE0 := Lib.hid he
  have HA := Lib.hid (Rw.all_go (rows := rows) he)
  obtain ⟨aop, bp, op, cp, hvp, _, p3, p4⟩ := slProds h
  obtain ⟨aog, bg, og, cg, rfl, _, g3, g4⟩ := slSl hg
  subst hvp
  have P3 := Lib.hid p3; have P4 := Lib.hid p4; have G3 := Lib.hid g3; have G4 := Lib.hid g4
  clear h hg he p3 p4 g3 g4 hF
  by_cases h1 : (rows.length : Int) ≠ n
  · have HE := Lib.hid (Rw.err_len (t := t) (n := n) (l := l) (rows := rows) h1)
    have h11 : ((rows.length : Int) != n) = true := by rw [bne_iff_ne]; exact h1
    clear h1
    go_enter Try.func123, Try.ntmps123
    go_wp2_with (fail)
    go_at_call 99; refine (HC.out _).mono ?_; rintro e w1 ⟨rfl, hb1⟩; rw [HE0.out]
    have hG1 : GrBox w1 w.heap.size t n (.slice aop l.length cp) := GrBox.below ⟨by rw [World.cell?_alloc_new]; rfl, by rw [World.cell?_alloc_new]; rfl, by rw [World.cell?_alloc_new]; rfl⟩ hb1 (by simp)
    have hGl := hG1.lt
    obtain ⟨hg0, hg1, hg2⟩ := hG1
    go_wp2
    go_ret
    exact ⟨by rw [HA.out, HE.out]; rfl, (hB.out _).trans (hb1.mono (hB.out _).size)⟩
  have h11 : ((rows.length : Int) != n) = false := by rw [bne_eq_false_iff_eq]; exact Decidable.not_not.1 h1
  have hrn : (rows.length : Int) = n := Decidable.not_not.1 h1
  have HL := Lib.hid hrn
  have hr20 : rows.length ≤ 20 := by omega
  clear h1
  go_enter Try.func123, Try.ntmps123
  go_wp2_with (fail)
  go_at_call 99; refine (HC.out _).mono ?_; rintro e w1 ⟨rfl, hb1⟩; rw [HE0.out]
  have hG1 : GrBox w1 w.heap.size t n (.slice aop l.length cp) := GrBox.below ⟨by rw [World.cell?_alloc_new]; rfl, by rw [World.cell?_alloc_new]; rfl, by rw [World.cell?_alloc_new]; rfl⟩ hb1 (by simp)
  have hGl := hG1.lt
  have HG1 := Lib.hid hG1
  have hB1 := (hB.out _).trans (hb1.mono (hB.out _).size)
  clear hb1
  obtain ⟨hg0, hg1, hg2⟩ := hG1
  go_wp2
  clear hg0 hg1 hg2 hGl
  go_loopw [6, 7, 9, 22, 35] (fun _ _ _ i _ wr => ∃ k : Nat, k ≤ rows.length ∧ i = .int .i64 k ∧ Below w1.heap.size w1 wr ∧ Hid (∀ j, j < k → Rw.At t l (rows.getD j []) j)) (fun _ _ _ i _ _ => rows.length - (intOf i).toNat)
  case atStart => exact ⟨0, by omega, rfl, Below.refl _ _, Lib.hid (fun j hj => absurd hj (by omega))⟩
  case round =>
    obtain ⟨k, hk, rfl, hB2, hok⟩ := hrel
    have hBw := hB1.trans (hB2.mono hB1.size)
    have hG2 := HG1.out.below hB2 HG1.out.lt
    have hGl := hG2.lt
    obtain ⟨hg0, hg1, hg2⟩ := hG2
    by_cases hlt : k < rows.length
    · obtain ⟨rfl, hbg, _⟩ := G3.out (by omega)
      obtain ⟨gi, di, hn2', hrg⟩ := G4.out k hlt
      have hc2 := bkeep hBw hn2'
      obtain ⟨row, hrow⟩ : ∃ r, rows.getD k [] = r := ⟨_, rfl⟩
      have HBAD : Hid (¬ Rw.At t l row k → Rw.err t n l rows = 1) := Lib.hid (fun h => Rw.err_bad (fun g => h (by rw [← hrow]; exact g k hlt)))
      have HOK : Hid (Rw.At t l row k → ∀ j, j < k + 1 → Rw.At t l (rows.getD j []) j) := Lib.hid (fun h j hj => by
        rcases Nat.lt_succ_iff_lt_or_eq.1 hj with hj | rfl
        · exact hok.out j hj
        · rw [hrow]; exact h)
      rw [hrow] at hc2 hrg
      clear hrow hn2'
      obtain ⟨_, bz, oz, _, hv2, _, z3, z4⟩ := Enc.sl1 (En := Enc.int .i64) (Value.int .i64) (fun _ _ _ h => h.1) rfl 0 hrg
      simp only [Value.slice.injEq, true_and] at hv2
      obtain ⟨rfl, rfl⟩ := hv2
      have Z3 := Lib.hid z3; have Z4 := Lib.hid z4
      clear z3 z4 hrg
      have hwr : IntKind.i64.wrap (t + 1) = t + 1 := by simp [IntKind.wrap, IntKind.bits, IntKind.signed]; omega
      have HB2 := Lib.hid hB2
      by_cases hl1 : (row.length : Int) = t + 1
      · have hl1b : ((row.length : Int) != t + 1) = false := by rw [bne_eq_false_iff_eq]; exact hl1
        have HL1 := Lib.hid hl1
        have hrl : row.length ≤ 31 := by omega
        clear hl1
        go_wp2
        clear hg0 hg1 hg2 hGl hc2
        go_loopw [9, 35] (fun _ j w2 => ∃ q : Nat, q ≤ row.length ∧ j = .int .i64 q ∧ Below w1.heap.size w1 w2 ∧ Hid (∀ c, c < q → Rw.good l (row.getD c 0) k)) (fun _ j _ => row.length - (intOf j).toNat)
        case atStart => exact ⟨0, by omega, rfl, hB2, Lib.hid (fun j hj => absurd hj (by omega))⟩
        case round =>
          clear hB2 hBw
          obtain ⟨q, hq, rfl, hB3, hrok⟩ := hrel
          have hBw3 := hB1.trans (hB3.mono hB1.size)
          have hG3 := HG1.out.below hB3 HG1.out.lt
          have hGl3 := hG3.lt
          obtain ⟨hg0, hg1, hg2⟩ := hG3
          by_cases hql : q < row.length
          · obtain ⟨rfl, hbr, _⟩ := Z3.out (by omega)
            have hx1 := bkeep hBw3 (Z4.out q hql).1
            have hxw := wf64 (Z4.out q hql).2.2
            have HRB : Hid (¬ Rw.good l (row.getD q 0) k → Rw.err t n l rows = 1) := Lib.hid (fun h => HBAD.out (fun g => h (g.2 q hql)))
            have HRO : Hid (Rw.good l (row.getD q 0) k → ∀ c, c < q + 1 → Rw.good l (row.getD c 0) k) := Lib.hid (fun h c hc => by
              rcases Nat.lt_succ_iff_lt_or_eq.1 hc with hc | rfl
              · exact hrok.out c hc
              · exact h)
            generalize row.getD q 0 = y at hx1 HRB HRO hxw
            by_cases y1 : y < -1
            · have HE := Lib.hid (HRB.out (fun g => by have := g.1; omega))
              go_wp2
              go_ret
              exact ⟨by rw [HA.out, HE.out]; rfl, hBw3⟩
            by_cases y2 : (l.length : Int) ≤ y
            · have HE := Lib.hid (HRB.out (fun g => by have := g.2.1; omega))
              go_wp2
              go_ret
              exact ⟨by rw [HA.out, HE.out]; rfl, hBw3⟩
            by_cases y3 : y < 0
            · have HX := Lib.hid (HRO.out ⟨by omega, by omega, fun h => by omega⟩)
              go_wp2
              go_roundw
              case rel => exact ⟨q + 1, by omega, by go_num, hB3, HX⟩
              case measure => simp [intOf]; omega
            obtain ⟨m, rfl⟩ := Int.eq_ofNat_of_zero_le (by omega : 0 ≤ y)
            have hml : m < l.length := by omega
            obtain ⟨rfl, hbp, _⟩ := P3.out (by omega)
            obtain ⟨_, hp1, _, _, _⟩ := P4.out m hml
            have hq1 := bkeep hBw3 hp1
            have HGD : Hid (Rw.good l m k ↔ (l.getD m (0, [])).1 = k) := Lib.hid ⟨fun g => by simpa using g.2.2 (by omega), fun g => ⟨by omega, by omega, fun _ => by simpa using g⟩⟩
            generalize (l.getD m (0, [])).1 = z at hq1 HGD
            clear hp1
            have hml2 : (m : Int) < l.length := by omega
            by_cases hz : z = (k : Int)
            · have HX := Lib.hid (HRO.out (HGD.out.2 hz))
              have hzb : (z != (k : Int)) = false := by rw [bne_eq_false_iff_eq]; exact hz
              clear hz y2 y3 y1
              go_wp2
              go_roundw
              case rel => exact ⟨q + 1, by omega, by go_num, hB3, HX⟩
              case measure => simp [intOf]; omega
            · have HE := Lib.hid (HRB.out (fun g => hz (HGD.out.1 g)))
              have hzb : (z != (k : Int)) = true := by rw [bne_iff_ne]; exact hz
              clear hz y2 y3 y1
              go_wp2
              go_ret
              exact ⟨by rw [HA.out, HE.out]; rfl, hBw3⟩
          · obtain rfl : q = row.length := by omega
            have HX := Lib.hid (HOK.out ⟨HL1.out, hrok.out⟩)
            go_wp2
            go_roundw
            case rel => exact ⟨k + 1, by omega, by go_num, hB3, HX⟩
            case measure => simp [intOf]; omega
      · have hl1b : ((row.length : Int) != t + 1) = true := by rw [bne_iff_ne]; exact hl1
        have HE := Lib.hid (HBAD.out (fun g => hl1 g.1))
        clear hl1
        go_wp2
        go_ret
        exact ⟨by rw [HA.out, HE.out]; rfl, hBw⟩
    · obtain rfl : k = rows.length := by omega
      have HE := Lib.hid (Rw.err_ok (t := t) (n := n) HL.out hok.out)
      go_wp2
      go_ret
      exact ⟨by rw [HA.out, HE.out]; rfl, hBw⟩
end Go.Proofs.Ytahoapgmiecphaa

/-
  What one who climbs has ahead, as plain data; what a column does to it. (Plain functions; nothing of the program is claimed.)
-/
namespace Go.Proofs.Ytahoapgmiecphaa
set_option linter.unusedVariables false

namespace Cl
/-- Close, N, the symbol's kind and number. -/
abbrev T := Bool × Int × Int × Int
def good (t n : Int) (np : Nat) (x : T) : Bool := if x.1 = true then decide (0 ≤ x.2.1 ∧ x.2.1 < np ∧ x.2.2.1 = 0 ∧ x.2.2.2 = 0) else decide (x.2.1 = 0) && Gr.right t n x.2.2
/-- The ends that are next go (the next one first); none: too many acts. -/
def clo : List T → List (Int × Int) → Option (List T × List (Int × Int))
  | [], o => some ([], o)
  | x :: r, o => if x.1 = true then (if 2000 ≤ o.length then none else clo r (o ++ [(3, x.2.1)])) else some (x :: r, o)
/-- A production in the place of what is next. -/
def put (ps : List (Int × List (Int × Int))) (p : Nat) (r : List T) : List T := ((ps.getD p (0, [])).2.map fun s => (false, 0, s.1, s.2)) ++ (true, (p : Int), 0, 0) :: r
/-- On till a terminal, or nothing, is ahead: error, what is ahead, events. -/
def dn (ps : List (Int × List (Int × Int))) (rows : List (List Int)) (c : Nat) : Nat → List T → List (Int × Int) → Int × List T × List (Int × Int)
  | 0, _, _ => (14, [], [])
  | f + 1, a, o => match clo a o with
    | none => (14, [], [])
    | some ([], o') => (0, [], o')
    | some (x :: r, o') =>
      if x.2.2.1 = 1 then (0, x :: r, o')
      else if (rows.getD x.2.2.2.toNat []).getD c 0 < 0 then (13, [], [])
      else if 2000 ≤ o'.length ∨ 60 < (put ps ((rows.getD x.2.2.2.toNat []).getD c 0).toNat r).length then (14, [], [])
      else dn ps rows c f (put ps ((rows.getD x.2.2.2.toNat []).getD c 0).toNat r) (o' ++ [(1, (rows.getD x.2.2.2.toNat []).getD c 0)])
/-- Behind the way down: a token; the end. -/
def tok (c : Nat) (seen : Int) : List T → List (Int × Int) → Int × List T × List (Int × Int)
  | [], _ => (13, [], [])
  | x :: r, o => if x.2.2.2 ≠ c then (13, [], []) else if 2000 ≤ o.length then (14, [], []) else match clo r (o ++ [(2, seen)]) with
    | none => (14, [], [])
    | some y => (0, y.1, y.2)
def push (ps : List (Int × List (Int × Int))) (rows : List (List Int)) (c : Nat) (seen : Int) (a : List T) : Int × List T × List (Int × Int) :=
  if (dn ps rows c 2001 a []).1 ≠ 0 then ((dn ps rows c 2001 a []).1, [], []) else tok c seen (dn ps rows c 2001 a []).2.1 (dn ps rows c 2001 a []).2.2
def ending (ps : List (Int × List (Int × Int))) (rows : List (List Int)) (c : Nat) (a : List T) : Int × List T × List (Int × Int) :=
  if (dn ps rows c 2001 a []).1 ≠ 0 then ((dn ps rows c 2001 a []).1, [], []) else if (dn ps rows c 2001 a []).2.1 ≠ [] then (13, [], []) else (0, [], (dn ps rows c 2001 a []).2.2)
/-- The reference's loop, an act a step. -/
def go (ps : List (Int × List (Int × Int))) (rows : List (List Int)) (c : Nat) (last : Bool) (seen : Int) : Nat → Bool → List T → List (Int × Int) → Int × List T × List (Int × Int)
  | 0, _, _, _ => (14, [], [])
  | f + 1, had, a, o =>
    if 2000 < o.length ∨ 60 < a.length then (14, [], [])
    else match a with
    | [] => if had = true then (0, [], o) else if last = true then (0, [], o) else (13, [], [])
    | x :: r =>
      if x.1 = true then go ps rows c last seen f had r (o ++ [(3, x.2.1)])
      else if had = true then (0, x :: r, o)
      else if x.2.2.1 = 1 then (if x.2.2.2 ≠ c then (13, [], []) else go ps rows c last seen f true r (o ++ [(2, seen)]))
      else if (rows.getD x.2.2.2.toNat []).getD c 0 < 0 then (13, [], [])
      else go ps rows c last seen f had (put ps ((rows.getD x.2.2.2.toNat []).getD c 0).toNat r) (o ++ [(1, (rows.getD x.2.2.2.toNat []).getD c 0)])
section
variable {ps : List (Int × List (Int × Int))} {rows : List (List Int)} {c : Nat} {last : Bool} {seen : Int}
theorem go_over {f had a o} (h : 2000 < o.length ∨ 60 < a.length) : go ps rows c last seen f had a o = (14, [], []) := by
  cases f with
  | zero => rfl
  | succ f => cases a <;> rw [go, if_pos h]
theorem clo_len (a : List T) : ∀ (o a' : _) (o' : List (Int × Int)), clo a o = some (a', o') → o.length ≤ o'.length := by
  induction a with
  | nil => intro o a' o' h; cases h; exact Nat.le_refl _
  | cons x r ih =>
    intro o a' o' h
    rw [clo] at h
    split at h
    · split at h
      · cases h
      · have := ih _ _ _ h
        rw [List.length_append, List.length_singleton] at this
        omega
    · cases h; exact Nat.le_refl _
theorem clo_go (a : List T) : ∀ (o : List (Int × Int)) (f : Nat) (had : Bool), a.length ≤ 60 → o.length ≤ 2000 → 2002 ≤ f + o.length →
    (clo a o = none → go ps rows c last seen f had a o = (14, [], [])) ∧
    ∀ a' o', clo a o = some (a', o') → ∃ f', 2002 ≤ f' + o'.length ∧ o'.length ≤ 2000 ∧ a'.length ≤ a.length ∧ go ps rows c last seen f had a o = go ps rows c last seen f' had a' o' ∧ (∀ x r, a' = x :: r → x.1 = false) := by
  induction a with
  | nil =>
    intro o f had h1 h2 h3
    refine ⟨(fun h => by cases h), fun a' o' h => ?_⟩
    cases h
    exact ⟨f, h3, h2, Nat.le_refl _, rfl, (fun x r h => by cases h)⟩
  | cons x r ih =>
    intro o f had h1 h2 h3
    rw [List.length_cons] at h1
    cases hx : x.1
    · rw [clo, if_neg (by simp [hx])]
      refine ⟨(fun h => by cases h), fun a' o' h => ?_⟩
      cases h
      exact ⟨f, h3, h2, Nat.le_refl _, rfl, fun y q h => by cases h; exact hx⟩
    · obtain ⟨f, rfl⟩ : ∃ g, f = g + 1 := ⟨f - 1, by omega⟩
      have hgo : go ps rows c last seen (f + 1) had (x :: r) o = go ps rows c last seen f had r (o ++ [(3, x.2.1)]) := by
        rw [go, if_neg (by rw [List.length_cons]; omega)]
        simp only [hx, if_true]
      rw [clo, if_pos hx, hgo]
      by_cases h4 : 2000 ≤ o.length
      · rw [if_pos h4]
        exact ⟨fun _ => go_over (.inl (by rw [List.length_append, List.length_singleton]; omega)), fun a' o' h => by cases h⟩
      · rw [if_neg h4]
        obtain ⟨i1, i2⟩ := ih (o ++ [(3, x.2.1)]) f had (by omega) (by rw [List.length_append, List.length_singleton]; omega) (by rw [List.length_append, List.length_singleton]; omega)
        refine ⟨i1, fun a' o' h => ?_⟩
        obtain ⟨f', j1, j2, j3, j4, j5⟩ := i2 a' o' h
        exact ⟨f', j1, j2, by rw [List.length_cons]; omega, j4, j5⟩
/-- A step of the loop at something that is no end. -/
theorem go_kid {f : Nat} {x : T} {r : List T} {o : List (Int × Int)} (h1 : ¬ (2000 < o.length ∨ 60 < (x :: r).length)) (hx : x.1 = false) (hk : x.2.2.1 ≠ 1) :
    go ps rows c last seen (f + 1) false (x :: r) o = if (rows.getD x.2.2.2.toNat []).getD c 0 < 0 then (13, [], []) else go ps rows c last seen f false (put ps ((rows.getD x.2.2.2.toNat []).getD c 0).toNat r) (o ++ [(1, (rows.getD x.2.2.2.toNat []).getD c 0)]) := by
  rw [go, if_neg h1]
  simp only [hx, Bool.false_eq_true, if_false, hk]
theorem dn_go (fd : Nat) : ∀ (a : List T) (o : List (Int × Int)) (f : Nat), a.length ≤ 60 → o.length ≤ 2000 → 2002 ≤ f + o.length → 2001 ≤ fd + o.length →
    ((dn ps rows c fd a o).1 ≠ 0 → go ps rows c last seen f false a o = ((dn ps rows c fd a o).1, [], [])) ∧
    ((dn ps rows c fd a o).1 = 0 → ∃ f', 2002 ≤ f' + (dn ps rows c fd a o).2.2.length ∧ (dn ps rows c fd a o).2.2.length ≤ 2000 ∧ (dn ps rows c fd a o).2.1.length ≤ 60 ∧ go ps rows c last seen f false a o = go ps rows c last seen f' false (dn ps rows c fd a o).2.1 (dn ps rows c fd a o).2.2 ∧ (∀ x r, (dn ps rows c fd a o).2.1 = x :: r → x.1 = false ∧ x.2.2.1 = 1)) := by
  induction fd with
  | zero => intro a o f h1 h2 h3 h4; omega
  | succ fd ih =>
    intro a o f h1 h2 h3 h4
    obtain ⟨k1, k2⟩ := clo_go (ps := ps) (rows := rows) (c := c) (last := last) (seen := seen) a o f false h1 h2 h3
    rw [dn]
    cases hc : clo a o with
    | none => exact ⟨fun _ => k1 hc, fun h => by cases h⟩
    | some y =>
      obtain ⟨a', o'⟩ := y
      obtain ⟨f', j1, j2, j3, j4, j5⟩ := k2 a' o' hc
      have hlen := clo_len _ _ _ _ hc
      cases a' with
      | nil => exact ⟨fun h => absurd rfl h, fun _ => ⟨f', j1, j2, Nat.zero_le _, j4, (fun x r h => by cases h)⟩⟩
      | cons x r =>
        have hx := j5 x r rfl
        simp only []
        by_cases hk : x.2.2.1 = 1
        · rw [if_pos hk]
          exact ⟨fun h => absurd rfl h, fun _ => ⟨f', j1, j2, by simp only; omega, j4, (fun y q h => by cases h; exact ⟨hx, hk⟩)⟩⟩
        · rw [if_neg hk]
          obtain ⟨g, rfl⟩ : ∃ g, f' = g + 1 := ⟨f' - 1, by omega⟩
          have hs := go_kid (ps := ps) (rows := rows) (c := c) (last := last) (seen := seen) (f := g) (x := x) (r := r) (o := o') (by omega) hx hk
          by_cases hp : (rows.getD x.2.2.2.toNat []).getD c 0 < 0
          · rw [if_pos hp]
            rw [if_pos hp] at hs
            exact ⟨fun _ => by rw [j4, hs], fun h => by cases h⟩
          · rw [if_neg hp]
            rw [if_neg hp] at hs
            by_cases hd : 2000 ≤ o'.length ∨ 60 < (put ps ((rows.getD x.2.2.2.toNat []).getD c 0).toNat r).length
            · rw [if_pos hd]
              refine ⟨fun _ => ?_, fun h => by cases h⟩
              rw [j4, hs]
              exact go_over (by rw [List.length_append, List.length_singleton]; omega)
            · rw [if_neg hd, j4, hs]
              exact ih _ _ _ (by omega) (by rw [List.length_append, List.length_singleton]; omega) (by rw [List.length_append, List.length_singleton]; omega) (by rw [List.length_append, List.length_singleton]; omega)
theorem push_go (a : List T) (ha : a.length ≤ 60) : go ps rows c false seen 2002 false a [] = push ps rows c seen a := by
  obtain ⟨k1, k2⟩ := dn_go (ps := ps) (rows := rows) (c := c) (last := false) (seen := seen) 2001 a [] 2002 ha (by simp) (by simp) (by simp)
  rw [push]
  generalize dn ps rows c 2001 a [] = y at *
  by_cases h : y.1 = 0
  · rw [if_neg (by simp [h])]
    obtain ⟨f', j1, j2, j3, j4, j5⟩ := k2 h
    rw [j4]
    obtain ⟨g, rfl⟩ : ∃ g, f' = g + 1 := ⟨f' - 1, by omega⟩
    cases hy : y.2.1 with
    | nil => rw [go, if_neg (by rw [List.length_nil]; omega)]; rfl
    | cons x r =>
      obtain ⟨hx, hk⟩ := j5 x r hy
      rw [hy] at j3
      rw [go, if_neg (by omega), tok]
      simp only [hx, Bool.false_eq_true, if_false, hk, if_true]
      by_cases hc : x.2.2.2 ≠ c
      · rw [if_pos hc, if_pos hc]
      · rw [if_neg hc, if_neg hc]
        by_cases h4 : 2000 ≤ y.2.2.length
        · rw [if_pos h4]
          exact go_over (.inl (by rw [List.length_append, List.length_singleton]; omega))
        · rw [if_neg h4]
          rw [List.length_cons] at j3
          obtain ⟨i1, i2⟩ := clo_go (ps := ps) (rows := rows) (c := c) (last := false) (seen := seen) r (y.2.2 ++ [(2, seen)]) g true (by omega) (by rw [List.length_append, List.length_singleton]; omega) (by rw [List.length_append, List.length_singleton]; omega)
          cases hcl : clo r (y.2.2 ++ [(2, seen)]) with
          | none => exact i1 hcl
          | some z =>
            obtain ⟨a', o'⟩ := z
            obtain ⟨f2, l1, l2, l3, l4, l5⟩ := i2 a' o' hcl
            rw [l4]
            obtain ⟨g2, rfl⟩ : ∃ g, f2 = g + 1 := ⟨f2 - 1, by omega⟩
            cases a' with
            | nil => rw [go, if_neg (by rw [List.length_nil]; omega)]; rfl
            | cons z q =>
              rw [go, if_neg (by omega)]
              simp only [l5 z q rfl, Bool.false_eq_true, if_false, if_true]
  · rw [if_pos h]
    exact k1 h
theorem ending_go (a : List T) (ha : a.length ≤ 60) (hT : ∀ x r, (dn ps rows c 2001 a []).2.1 = x :: r → x.2.2.2 ≠ c) : go ps rows c true seen 2002 false a [] = ending ps rows c a := by
  obtain ⟨k1, k2⟩ := dn_go (ps := ps) (rows := rows) (c := c) (last := true) (seen := seen) 2001 a [] 2002 ha (by simp) (by simp) (by simp)
  rw [ending]
  generalize dn ps rows c 2001 a [] = y at *
  by_cases h : y.1 = 0
  · rw [if_neg (by simp [h])]
    obtain ⟨f', j1, j2, j3, j4, j5⟩ := k2 h
    rw [j4]
    obtain ⟨g, rfl⟩ : ∃ g, f' = g + 1 := ⟨f' - 1, by omega⟩
    cases hy : y.2.1 with
    | nil => rw [go, if_neg (by rw [List.length_nil]; omega), if_neg (by simp)]; rfl
    | cons x r =>
      obtain ⟨hx, hk⟩ := j5 x r hy
      rw [hy] at j3
      have hcons : x :: r ≠ [] := by simp
      rw [if_pos hcons, go, if_neg (by omega)]
      simp only [hx, Bool.false_eq_true, if_false, hk, if_true]
      rw [if_pos (hT x r hy)]
  · rw [if_pos h]
    exact k1 h
end
end Cl
attribute [irreducible] Cl.good
end Go.Proofs.Ytahoapgmiecphaa

/-
  What reads as plain data, in memory that the call made (the blocks fp) or that was there before it (world w0). (A helper text; it claims nothing of the program.)
-/
namespace Go.Proofs.Ytahoapgmiecphaa
set_option linter.unusedVariables false
open Go.ChangeShapes Go.WideShapes Go.ChangeAt Go.RowKit

/-- The values vs read as l, looking into blocks of fp and into what was there in w0. -/
def aRd {α : Type} (E : Enc α) (w0 : World) (fp : List Nat) (vs : List Value) (l : α) : Asrt where
  fp := fp
  ok := fun w => ∀ w', (∀ b, b < w0.heap.size → w'.heap[b]? = w0.heap[b]?) → (∀ b ∈ fp, w'.heap[b]? = w.heap[b]?) → E.R (fun b => b < w0.heap.size ∨ b ∈ fp) w' vs l
  loc := fun w w' h hw w2 h0 h1 => hw w2 h0 fun b hb => (h1 b hb).trans (h b hb)

section
variable {α : Type} {E : Enc α} {w0 w w' : World} {μ : List Asrt} {fp : List Nat} {vs : List Value} {l : α}
theorem St.rd (h : St w0 w (aRd E w0 fp vs l :: μ)) : E.R (fun b => b < w0.heap.size ∨ b ∈ fp) w vs l := h.ok _ (.head _) w (fun b hb => h.bel.block b hb) (fun _ _ => rfl)
theorem St.rdLt (h : St w0 w (aRd E w0 fp vs l :: μ)) : E.R (fun b => b < w.heap.size) w vs l :=
  E.mono h.rd (fun b hb => hb.elim (fun h1 => Nat.lt_of_lt_of_le h1 h.bel.size) (fun h1 => (h.lo _ (.head _) b h1).2)) (fun _ _ => rfl)
/-- What was there before. -/
theorem St.pushOld {F : Nat → Prop} (h : St w0 w μ) (hr : E.R F w0 vs l) (hF : ∀ b, F b → b < w0.heap.size) : St w0 w (aRd E w0 [] vs l :: μ) :=
  h.push (Below.refl _ _) (fun w' h0 _ => E.mono hr (fun b hb => .inl (hF b hb)) (fun b hb => h0 b (hF b hb))) (fun b hb => by cases hb) (by simp [aRd])
end

/-- One assertion for another one with the same or fewer blocks. -/
theorem St.turn {w0 w : World} {A A' : Asrt} {μ : List Asrt} (h : St w0 w (A :: μ)) (hfp : A'.fp = A.fp) (hok : A'.ok w) : St w0 w (A' :: μ) := by
  refine h.upd rfl rfl rfl (Nat.le_refl _) (fun _ _ _ => rfl) hok (fun b hb => .inl (by rw [← hfp]; exact hb)) ?_
  rw [hfp]
  have := h.sep
  simp only [List.flatMap_cons] at this
  exact (List.nodup_append.1 this).1

theorem St.one' {w0 w : World} {μ : List Asrt} {A : Asrt} (h : St w0 w μ) (hA : A ∈ μ) : St w0 w [A] := by
  refine ⟨h.bel, fun X hX => ?_, fun X hX => ?_, ?_⟩
  · rw [List.mem_singleton.1 hX]; exact h.ok A hA
  · rw [List.mem_singleton.1 hX]; exact h.lo A hA
  · simp only [List.flatMap_cons, List.flatMap_nil, List.append_nil]
    obtain ⟨s, t, rfl⟩ := List.append_of_mem hA
    have h3 := h.sep
    rw [List.flatMap_append, List.flatMap_cons] at h3
    exact (List.nodup_append.1 (List.nodup_append.1 h3).2.1).1

/-- What the call owns, read. -/
theorem St.ownRd {α : Type} {En : Enc α} {w0 w : World} {μ : List Asrt} {e : TypeId} {size bytes : Nat} {v : Value} {l : List α} {f : α → Value} (h : St w0 w (aOwn e size v (l.map f) :: μ)) (hes : En.size = size) (hR : ∀ F W, ∀ a ∈ l, En.R F W (f a).cells.toList a) (hb : (l.length : Int) * bytes ≤ 140737488355328) :
    St w0 w (aRd (En.sl bytes) w0 v.ownBlock.toList [v] l :: μ) := by
  refine h.turn rfl (fun w' h0 h1 => ?_)
  have ho := (aOwn e size v (l.map f)).loc w w' h1 (h.ok _ (.head _))
  exact Own.enc (f := f) ho hes (fun a ha => hR _ _ a ha) (fun b hb => .inr hb) hb

theorem Own.isLen {w : World} {B : Nat} {e : TypeId} {size : Nat} {v : Value} {xs : List Value} (h : Own w B e size v xs) : ∃ ao cap, v = .slice ao xs.length cap := by
  rcases h.shape with ⟨h1, h2⟩ | ⟨g, cap, h1, _⟩
  · exact ⟨none, 0, by rw [h1, h2]; rfl⟩
  · exact ⟨_, _, h1⟩

theorem St.cel3 {w0 w : World} {μ : List Asrt} {g : Nat} {T : TypeId} {v0 v1 v2 : Value} (h : St w0 w (aCel g T #[v0, v1, v2] :: μ)) :
    w.cell? ⟨g, 0, none⟩ = some v0 ∧ w.cell? ⟨g, 1, none⟩ = some v1 ∧ w.cell? ⟨g, 2, none⟩ = some v2 ∧ w.frozen? ⟨g, 0, none⟩ = false ∧ w.frozen? ⟨g, 1, none⟩ = false ∧ w.frozen? ⟨g, 2, none⟩ = false :=
  ⟨h.celAt rfl, h.celAt rfl, h.celAt rfl, h.celFree 0, h.celFree 1, h.celFree 2⟩
end Go.Proofs.Ytahoapgmiecphaa

/-
  What the call owns, by its place in the list. (A helper text; it claims nothing of the program.)
-/
namespace Go.Proofs.Ytahoapgmiecphaa
set_option linter.unusedVariables false
open Go.ChangeShapes Go.WideShapes Go.ChangeAt Go.RowKit

section
variable {w0 w : World} {μ : List Asrt}
theorem St.cel2 {g : Nat} {T : TypeId} {v0 v1 : Value} (h : St w0 w (aCel g T #[v0, v1] :: μ)) : w.cell? ⟨g, 0, none⟩ = some v0 ∧ w.cell? ⟨g, 1, none⟩ = some v1 := ⟨h.celAt rfl, h.celAt rfl⟩
/-- The i-th assertion. -/
theorem St.nth {A : Asrt} (h : St w0 w μ) (i : Nat) (hA : μ[i]? = some A) : St w0 w [A] := h.one' (List.mem_of_getElem? hA)
theorem St.at3 {g : Nat} {T : TypeId} {v0 v1 v2 : Value} (h : St w0 w μ) (i : Nat) (hA : μ[i]? = some (aCel g T #[v0, v1, v2])) : w.cell? ⟨g, 0, none⟩ = some v0 ∧ w.cell? ⟨g, 1, none⟩ = some v1 ∧ w.cell? ⟨g, 2, none⟩ = some v2 := by
  have := (h.nth i hA).cel3
  exact ⟨this.1, this.2.1, this.2.2.1⟩
theorem St.at2 {g : Nat} {T : TypeId} {v0 v1 : Value} (h : St w0 w μ) (i : Nat) (hA : μ[i]? = some (aCel g T #[v0, v1])) : w.cell? ⟨g, 0, none⟩ = some v0 ∧ w.cell? ⟨g, 1, none⟩ = some v1 := (h.nth i hA).cel2
theorem St.heapAt {g : Nat} {T : TypeId} {cs : Array Value} (h : St w0 w μ) (i : Nat) (hA : μ[i]? = some (aCel g T cs)) : w.heap[g]? = some (.cells cs T (0, 0)) := (h.nth i hA).ok _ (.head _)
theorem St.ownAt {e : TypeId} {size : Nat} {v : Value} {xs : List Value} (h : St w0 w μ) (i : Nat) (hA : μ[i]? = some (aOwn e size v xs)) : Own w w0.heap.size e size v xs := (h.nth i hA).own
end
end Go.Proofs.Ytahoapgmiecphaa

/-
  right of package climb, RightTodo of the reference: what they compute.
-/
namespace Go.Proofs.Ytahoapgmiecphaa
set_option linter.unusedVariables false
open Go.ChangeShapes Go.WideShapes Go.ChangeAt Go.RowKit

namespace Cl
theorem good_close {t n : Int} {np : Nat} {m k s : Int} : good t n np (true, m, k, s) = decide (0 ≤ m ∧ m < np ∧ k = 0 ∧ s = 0) := by simp [good]
theorem good_sym {t n : Int} {np : Nat} {m k s : Int} : good t n np (false, m, k, s) = (decide (m = 0) && Gr.right t n (k, s)) := by simp [good]
theorem sym_yes {t n : Int} {np : Nat} {m k s : Int} (h0 : m = 0) (h : (k = 1 ∧ 0 ≤ s ∧ s < t) ∨ (k = 2 ∧ 0 ≤ s ∧ s < n)) : good t n np (false, m, k, s) = true := by
  rw [good_sym, Gr.right_yes h]; simp [h0]
theorem sym_no {t n : Int} {np : Nat} {m k s : Int} (h : ¬ (m = 0 ∧ ((k = 1 ∧ 0 ≤ s ∧ s < t) ∨ (k = 2 ∧ 0 ≤ s ∧ s < n)))) : good t n np (false, m, k, s) = false := by
  rw [good_sym]
  by_cases h0 : m = 0
  · rw [Gr.right_no (fun g => h ⟨h0, g⟩), Bool.and_false]
  · simp [h0]
end Cl

set_option maxRecDepth 100000 in
set_option maxHeartbeats 8000000 in
theorem clRight_any (t n : Int) (np : Nat) (aop : Option Addr) (cp : Nat) (cl : Bool) (m k s : Int) (w : World) :
    Calls Try.prog 217 #[.agg #[.int .i64 t, .int .i64 n, .slice aop np cp], .agg #[.bool cl, .int .i64 m, .int .i64 k, .int .i64 s]] w fun e w' => e = .returned (.bool (Cl.good t n np (cl, m, k, s))) ∧ Below w.heap.size w w' := by
  have HB : Hid (∀ o o', Below w.heap.size w ((w.alloc o).alloc o')) := Lib.hid (fun o o' => ((Below.refl _ _).alloc (Nat.le_refl _) _).alloc (by simp) _)
  cases cl
  · rcases (by omega : (k = 1 ∧ m ≠ 0) ∨ (k = 1 ∧ m = 0 ∧ s < 0) ∨ (k = 1 ∧ m = 0 ∧ 0 ≤ s ∧ t ≤ s) ∨ (k = 1 ∧ m = 0 ∧ 0 ≤ s ∧ s < t) ∨ (k = 2 ∧ m ≠ 0) ∨ (k = 2 ∧ m = 0 ∧ s < 0) ∨ (k = 2 ∧ m = 0 ∧ 0 ≤ s ∧ n ≤ s) ∨ (k = 2 ∧ m = 0 ∧ 0 ≤ s ∧ s < n) ∨ (k ≠ 1 ∧ k ≠ 2)) with ⟨rfl, p1⟩ | ⟨rfl, rfl, p2⟩ | ⟨rfl, rfl, p2, p3⟩ | ⟨rfl, rfl, p2, p3⟩ | ⟨rfl, p1⟩ | ⟨rfl, rfl, p2⟩ | ⟨rfl, rfl, p2, p3⟩ | ⟨rfl, rfl, p2, p3⟩ | ⟨p1, p2⟩
    · have HR : Hid (Cl.good t n np (false, m, 1, s) = false) := Lib.hid (by exact Cl.sym_no (by omega))
      have mb : (m == 0) = false := by rw [beq_eq_false_iff_ne]; exact p1
      clear p1
      go_enter Try.func217, Try.ntmps217
      go_wp2
      go_ret
      refine ⟨?_, HB.out _ _⟩
      rw [HR.out]
      first | rfl | exact congrArg (fun b => Ending.returned (.bool b)) (decide_eq_false (by omega)) | exact congrArg (fun b => Ending.returned (.bool b)) (decide_eq_true (by omega))
    · have HR : Hid (Cl.good t n np (false, 0, 1, s) = false) := Lib.hid (by exact Cl.sym_no (by omega))
      go_enter Try.func217, Try.ntmps217
      go_wp2
      go_ret
      refine ⟨?_, HB.out _ _⟩
      rw [HR.out]
      first | rfl | exact congrArg (fun b => Ending.returned (.bool b)) (decide_eq_false (by omega)) | exact congrArg (fun b => Ending.returned (.bool b)) (decide_eq_true (by omega))
    · have HR : Hid (Cl.good t n np (false, 0, 1, s) = false) := Lib.hid (by exact Cl.sym_no (by omega))
      go_enter Try.func217, Try.ntmps217
      go_wp2
      go_ret
      refine ⟨?_, HB.out _ _⟩
      rw [HR.out]
      first | rfl | exact congrArg (fun b => Ending.returned (.bool b)) (decide_eq_false (by omega)) | exact congrArg (fun b => Ending.returned (.bool b)) (decide_eq_true (by omega))
    · have HR : Hid (Cl.good t n np (false, 0, 1, s) = true) := Lib.hid (by exact Cl.sym_yes rfl (by omega))
      go_enter Try.func217, Try.ntmps217
      go_wp2
      go_ret
      refine ⟨?_, HB.out _ _⟩
      rw [HR.out]
      first | rfl | exact congrArg (fun b => Ending.returned (.bool b)) (decide_eq_false (by omega)) | exact congrArg (fun b => Ending.returned (.bool b)) (decide_eq_true (by omega))
    · have HR : Hid (Cl.good t n np (false, m, 2, s) = false) := Lib.hid (by exact Cl.sym_no (by omega))
      have mb : (m == 0) = false := by rw [beq_eq_false_iff_ne]; exact p1
      clear p1
      go_enter Try.func217, Try.ntmps217
      go_wp2
      go_ret
      refine ⟨?_, HB.out _ _⟩
      rw [HR.out]
      first | rfl | exact congrArg (fun b => Ending.returned (.bool b)) (decide_eq_false (by omega)) | exact congrArg (fun b => Ending.returned (.bool b)) (decide_eq_true (by omega))
    · have HR : Hid (Cl.good t n np (false, 0, 2, s) = false) := Lib.hid (by exact Cl.sym_no (by omega))
      go_enter Try.func217, Try.ntmps217
      go_wp2
      go_ret
      refine ⟨?_, HB.out _ _⟩
      rw [HR.out]
      first | rfl | exact congrArg (fun b => Ending.returned (.bool b)) (decide_eq_false (by omega)) | exact congrArg (fun b => Ending.returned (.bool b)) (decide_eq_true (by omega))
    · have HR : Hid (Cl.good t n np (false, 0, 2, s) = false) := Lib.hid (by exact Cl.sym_no (by omega))
      go_enter Try.func217, Try.ntmps217
      go_wp2
      go_ret
      refine ⟨?_, HB.out _ _⟩
      rw [HR.out]
      first | rfl | exact congrArg (fun b => Ending.returned (.bool b)) (decide_eq_false (by omega)) | exact congrArg (fun b => Ending.returned (.bool b)) (decide_eq_true (by omega))
    · have HR : Hid (Cl.good t n np (false, 0, 2, s) = true) := Lib.hid (by exact Cl.sym_yes rfl (by omega))
      go_enter Try.func217, Try.ntmps217
      go_wp2
      go_ret
      refine ⟨?_, HB.out _ _⟩
      rw [HR.out]
      first | rfl | exact congrArg (fun b => Ending.returned (.bool b)) (decide_eq_false (by omega)) | exact congrArg (fun b => Ending.returned (.bool b)) (decide_eq_true (by omega))
    · have HR : Hid (Cl.good t n np (false, m, k, s) = false) := Lib.hid (by exact Cl.sym_no (by omega))
      have k1 : (k == 1) = false := by rw [beq_eq_false_iff_ne]; exact p1
      have k2 : (k == 2) = false := by rw [beq_eq_false_iff_ne]; exact p2
      clear p1 p2
      go_enter Try.func217, Try.ntmps217
      go_wp2
      go_ret
      refine ⟨?_, HB.out _ _⟩
      rw [HR.out]
      first | rfl | exact congrArg (fun b => Ending.returned (.bool b)) (decide_eq_false (by omega)) | exact congrArg (fun b => Ending.returned (.bool b)) (decide_eq_true (by omega))
  · rcases (by omega : m < 0 ∨ (0 ≤ m ∧ (np : Int) ≤ m) ∨ (0 ≤ m ∧ m < (np : Int) ∧ k ≠ 0) ∨ (0 ≤ m ∧ m < (np : Int) ∧ k = 0 ∧ s ≠ 0) ∨ (0 ≤ m ∧ m < (np : Int) ∧ k = 0 ∧ s = 0)) with p1 | ⟨p1, p2⟩ | ⟨p1, p2, p3⟩ | ⟨p1, p2, rfl, p4⟩ | ⟨p1, p2, rfl, rfl⟩
    · have HR : Hid (Cl.good t n np (true, m, k, s) = false) := Lib.hid (by rw [Cl.good_close]; exact decide_eq_false (by omega))
      go_enter Try.func217, Try.ntmps217
      go_wp2
      go_ret
      refine ⟨?_, HB.out _ _⟩
      rw [HR.out]
      first | rfl | exact congrArg (fun b => Ending.returned (.bool b)) (decide_eq_false (by omega)) | exact congrArg (fun b => Ending.returned (.bool b)) (decide_eq_true (by omega))
    · have HR : Hid (Cl.good t n np (true, m, k, s) = false) := Lib.hid (by rw [Cl.good_close]; exact decide_eq_false (by omega))
      go_enter Try.func217, Try.ntmps217
      go_wp2
      go_ret
      refine ⟨?_, HB.out _ _⟩
      rw [HR.out]
      first | rfl | exact congrArg (fun b => Ending.returned (.bool b)) (decide_eq_false (by omega)) | exact congrArg (fun b => Ending.returned (.bool b)) (decide_eq_true (by omega))
    · have HR : Hid (Cl.good t n np (true, m, k, s) = false) := Lib.hid (by rw [Cl.good_close]; exact decide_eq_false (by omega))
      have k0 : (k == 0) = false := by rw [beq_eq_false_iff_ne]; exact p3
      clear p3
      go_enter Try.func217, Try.ntmps217
      go_wp2
      go_ret
      refine ⟨?_, HB.out _ _⟩
      rw [HR.out]
      first | rfl | exact congrArg (fun b => Ending.returned (.bool b)) (decide_eq_false (by omega)) | exact congrArg (fun b => Ending.returned (.bool b)) (decide_eq_true (by omega))
    · have HR : Hid (Cl.good t n np (true, m, 0, s) = false) := Lib.hid (by rw [Cl.good_close]; exact decide_eq_false (by omega))
      have s0 : (s == 0) = false := by rw [beq_eq_false_iff_ne]; exact p4
      clear p4
      go_enter Try.func217, Try.ntmps217
      go_wp2
      go_ret
      refine ⟨?_, HB.out _ _⟩
      rw [HR.out]
      first | rfl | exact congrArg (fun b => Ending.returned (.bool b)) (decide_eq_false (by omega)) | exact congrArg (fun b => Ending.returned (.bool b)) (decide_eq_true (by omega))
    · have HR : Hid (Cl.good t n np (true, m, 0, 0) = true) := Lib.hid (by rw [Cl.good_close]; exact decide_eq_true ⟨p1, p2, rfl, rfl⟩)
      go_enter Try.func217, Try.ntmps217
      go_wp2
      go_ret
      refine ⟨?_, HB.out _ _⟩
      rw [HR.out]
      first | rfl | exact congrArg (fun b => Ending.returned (.bool b)) (decide_eq_false (by omega)) | exact congrArg (fun b => Ending.returned (.bool b)) (decide_eq_true (by omega))
end Go.Proofs.Ytahoapgmiecphaa

/-
  RightTodo of the reference: what it computes.
-/
namespace Go.Proofs.Ytahoapgmiecphaa
set_option linter.unusedVariables false
open Go.ChangeShapes Go.WideShapes Go.ChangeAt Go.RowKit

end Go.Proofs.Ytahoapgmiecphaa

/-
  What is ahead, checked: the closure of climb.check, slices.ContainsFunc over it.
-/
namespace Go.Proofs.Ytahoapgmiecphaa
set_option linter.unusedVariables false
open Go.ChangeShapes Go.WideShapes Go.ChangeAt Go.RowKit

def Enc.todo : Enc Cl.T := Enc.prod Enc.bool (Enc.prod (Enc.int .i64) Enc.two)
def todoV (x : Cl.T) : Value := .agg #[.bool x.1, .int .i64 x.2.1, .int .i64 x.2.2.1, .int .i64 x.2.2.2]
abbrev Cl.z : Cl.T := (false, 0, 0, 0)
theorem slTodo {bytes : Nat} {F : Nat → Prop} {w : World} {v : Value} {l : List Cl.T} (h : (Enc.todo.sl bytes).R F w [v] l) :
    ∃ (ao : Option Addr) (b off cap : Nat), v = .slice ao l.length cap ∧ (l.length : Int) * bytes ≤ 140737488355328 ∧ (0 < l.length → ao = some ⟨b, off, none⟩ ∧ b < w.heap.size ∧ F b) ∧
      ∀ i, i < l.length → w.cell? ⟨b, off + i * 4, none⟩ = some (.bool (l.getD i Cl.z).1) ∧ w.cell? ⟨b, off + i * 4 + 1, none⟩ = some (.int .i64 (l.getD i Cl.z).2.1) ∧ w.cell? ⟨b, off + i * 4 + 2, none⟩ = some (.int .i64 (l.getD i Cl.z).2.2.1) ∧ w.cell? ⟨b, off + i * 4 + 3, none⟩ = some (.int .i64 (l.getD i Cl.z).2.2.2) ∧
        Enc.todo.R F w (todoV (l.getD i Cl.z)).cells.toList (l.getD i Cl.z) := by
  obtain ⟨ao, b, off, cap, h0, h1, h2, h3⟩ := Enc.slN Cl.z h
  refine ⟨ao, b, off, cap, h0, h1, h2, fun i hi => ?_⟩
  obtain ⟨cs, _, g2, g3⟩ := h3 i hi
  have g4 := g3
  obtain ⟨c1, c2, rfl, hb, c3, c4, rfl, ⟨rfl, _⟩, h5⟩ := g3
  have hb' : c1 = [.bool (l.getD i Cl.z).1] := hb
  subst hb'
  obtain ⟨rfl, _, _⟩ := two_cells h5
  exact ⟨g2 0 (by decide), g2 1 (by decide), g2 2 (by decide), g2 3 (by decide), g4⟩

set_option maxRecDepth 100000 in
theorem clBad_any (t n : Int) (np : Nat) (aop : Option Addr) (cp : Nat) (G : Nat) (x : Cl.T) (w : World) (hG : GrBox w G t n (.slice aop np cp)) :
    Calls Try.prog 216 #[todoV x, .pointer (some ⟨G, 0, none⟩)] w fun e w' => e = .returned (.bool (!Cl.good t n np x)) ∧ Below w.heap.size w w' := by
  obtain ⟨cl, m, k, s⟩ := x
  have hlt := hG.lt
  obtain ⟨g0, g1, g2⟩ := hG
  have HB : Hid (∀ o, Below w.heap.size w (w.alloc o)) := Lib.hid (fun o => (Below.refl _ _).alloc (Nat.le_refl _) _)
  unfold todoV
  go_enter Try.func216, Try.ntmps216
  go_wp2_with (fail)
  go_at_call 217
  refine (clRight_any t n np aop cp cl m k s _).mono ?_
  rintro e w5 ⟨rfl, hb5⟩
  go_wp2
  go_ret
  exact ⟨rfl, (HB.out _).trans (hb5.mono (HB.out _).size)⟩

set_option maxRecDepth 100000 in
theorem clIndex_any (t n : Int) (np : Nat) (aop : Option Addr) (cp : Nat) (G : Nat) (l : List Cl.T) (v : Value) (w : World) (F : Nat → Prop) (h : (Enc.todo.sl 32).R F w [v] l) (hG : GrBox w G t n (.slice aop np cp)) :
    Calls Try.prog 220 #[v, .func (.func 216) #[] #[.pointer (some ⟨G, 0, none⟩)]] w fun e w' => (∃ r : Int, e = .returned (.int .i64 r) ∧ decide (0 ≤ r) = l.any (fun x => !Cl.good t n np x)) ∧ Below w.heap.size w w' := by
  obtain ⟨ao, b, off, cap, rfl, hl, n3, n4⟩ := slTodo h
  clear h
  have hl2 : (l.length : Int) ≤ 140737488355328 := by omega
  have N3 := Lib.hid n3; have N4 := Lib.hid n4; have HT := Lib.hid hG
  have hTl := hG.lt
  clear n3 n4 hl hG
  go_enter Try.func220, Try.ntmps220
  go_wp2
  go_loopw [5, 8] (fun _ i wr => ∃ k : Nat, k ≤ l.length ∧ i = .int .i64 k ∧ Below w.heap.size w wr ∧ Hid (∀ j, j < k → (!Cl.good t n np (l.getD j Cl.z)) = false)) (fun _ i _ => l.length - (intOf i).toNat)
  case atStart => exact ⟨0, by omega, rfl, Below.refl _ _, Lib.hid (fun j hj => absurd hj (by omega))⟩
  case round =>
    obtain ⟨k, hk, rfl, hB, hq⟩ := hrel
    by_cases hlt : k < l.length
    · obtain ⟨rfl, _, _⟩ := N3.out (by omega)
      have hc1 := bkeep hB (N4.out k hlt).1
      have hc2 := bkeep hB (N4.out k hlt).2.1
      have hc3 := bkeep hB (N4.out k hlt).2.2.1
      have hc4 := bkeep hB (N4.out k hlt).2.2.2.1
      obtain ⟨x, hx⟩ : ∃ x, x = l.getD k Cl.z := ⟨_, rfl⟩
      rw [← hx] at hc1 hc2 hc3 hc4
      have HXE := Lib.hid hx; clear hx
      have HGH := Lib.hid (HT.out.below hB hTl)
      have HCL := Lib.hid (fun W (hW : GrBox W G t n (.slice aop np cp)) => clBad_any t n np aop cp G x W hW)
      unfold todoV at HCL
      cases hbk : (!Cl.good t n np x)
      · have HBK := Lib.hid hbk; clear hbk
        go_wp2_with (go_at_call 216; refine (HCL.out _ HGH.out).mono ?_; rintro e w9 ⟨rfl, hb9⟩; rw [HBK.out])
        go_roundw
        case rel =>
          refine ⟨k + 1, by omega, by go_num, hB.trans (hb9.mono hB.size), Lib.hid (fun j hj => ?_)⟩
          rcases Nat.lt_succ_iff_lt_or_eq.1 hj with hj | rfl
          · exact hq.out j hj
          · rw [← HXE.out, HBK.out]
        case measure => simp [intOf]; omega
      · have HBK := Lib.hid hbk; clear hbk
        go_wp2_with (go_at_call 216; refine (HCL.out _ HGH.out).mono ?_; rintro e w9 ⟨rfl, hb9⟩; rw [HBK.out])
        go_ret
        exact ⟨⟨k, rfl, by rw [any_some' (d := Cl.z) hlt (by rw [← HXE.out, HBK.out])]; simp⟩, hB.trans (hb9.mono hB.size)⟩
    · obtain rfl : k = l.length := by omega
      go_wp2
      go_ret
      exact ⟨⟨-1, rfl, by rw [any_none' (d := Cl.z) hq.out]; rfl⟩, hB⟩

set_option maxRecDepth 100000 in
theorem clIn_any (t n : Int) (np : Nat) (aop : Option Addr) (cp : Nat) (G : Nat) (l : List Cl.T) (v : Value) (w : World) (F : Nat → Prop) (h : (Enc.todo.sl 32).R F w [v] l) (hG : GrBox w G t n (.slice aop np cp)) :
    Calls Try.prog 215 #[v, .func (.func 216) #[] #[.pointer (some ⟨G, 0, none⟩)]] w fun e w' => e = .returned (.bool (l.any (fun x => !Cl.good t n np x))) ∧ Below w.heap.size w w' := by
  go_enter Try.func215, Try.ntmps215
  go_wp2_with (go_at_call 220; refine (clIndex_any t n np aop cp G l v w _ h hG).mono ?_; rintro e w9 ⟨⟨r, rfl, hr⟩, hb9⟩)
  go_ret
  exact ⟨by rw [← hr]; simp, hb9⟩
end Go.Proofs.Ytahoapgmiecphaa

/-
  A slice that the call made, cut short; an append that finds no room. (A helper text; it claims nothing of the program.)
-/
namespace Go.Proofs.Ytahoapgmiecphaa
set_option linter.unusedVariables false
open Go.ChangeShapes Go.WideShapes Go.ChangeAt Go.RowKit

theorem cellsOf_take {size : Nat} {us : List Value} (h : ∀ u ∈ us, u.cells.size = size) (m : Nat) : cellsOf (us.take m) = (cellsOf us).take (m * size) := by
  have h1 : cellsOf us = cellsOf (us.take m) ++ cellsOf (us.drop m) := by rw [← cellsOf_append, List.take_append_drop]
  by_cases hm : m ≤ us.length
  · have h2 := cellsOf_len (size := size) (us := us.take m) (fun u hu => h u (List.mem_of_mem_take hu))
    rw [List.length_take, Nat.min_eq_left hm] at h2
    rw [h1, ← h2, List.take_left]
  · have h2 := cellsOf_len (size := size) (us := us) h
    rw [List.take_of_length_le (by omega), List.take_of_length_le]
    rw [h2]
    exact Nat.mul_le_mul_right _ (by omega)

theorem Own.take {w : World} {B : Nat} {e : TypeId} {size g n cap : Nat} {xs : List Value} (h : Own w B e size (.slice (some ⟨g, 0, none⟩) n cap) xs) (hu : ∀ u ∈ xs, u.cells.size = size) (m : Nat) (hm : m ≤ xs.length) :
    Own w B e size (.slice (some ⟨g, 0, none⟩) m cap) (xs.take m) := by
  unfold Own at h ⊢
  have hl : (xs.take m).length = m := by simp; omega
  rw [hl, cellsOf_take hu]
  obtain ⟨h1, h2⟩ := h
  have hle : m * size ≤ xs.length * size := Nat.mul_le_mul_right _ hm
  refine ⟨by rw [List.length_take, h1]; omega, ?_⟩
  rcases h2 with ⟨h2, _⟩ | ⟨g', cap', cur, hv, hB, hg, hn, hc, hcs, htk⟩
  · cases h2
  · simp only [Value.slice.injEq, Option.some.injEq, Addr.mk.injEq] at hv
    obtain ⟨⟨rfl, _⟩, rfl, rfl⟩ := hv
    refine .inr ⟨g, cap, cur, rfl, hB, hg, by omega, hc, hcs, ?_⟩
    rw [← htk, List.take_take]
    congr 1
    omega

theorem St.take {w0 w : World} {μ : List Asrt} {e : TypeId} {size g n cap : Nat} {xs : List Value} (h : St w0 w (aOwn e size (.slice (some ⟨g, 0, none⟩) n cap) xs :: μ)) (hu : ∀ u ∈ xs, u.cells.size = size) (m : Nat) (hm : m ≤ xs.length) :
    St w0 w (aOwn e size (.slice (some ⟨g, 0, none⟩) m cap) (xs.take m) :: μ) :=
  h.turn rfl ((Own.take (B := 0) (h.ok _ (.head _)) hu m hm))

/-- append(s, u), s being full: a new row, whatever s is. -/
theorem run_append_full {P : Program} {w : World} {t ty e : TypeId} {size bytes : Nat} (E : ET P t e size bytes) (b : Addr) (xs : List Value) (m : Nat) (hm : m = xs.length) (hxs : ∀ u ∈ xs, u.cells.size = size)
    (hread : ∀ j q, (cellsOf xs)[j]? = some q → w.cell? (b.add j) = some q) (u : Value) (a : Addr) (c : Nat) (hsz : u.cells.size = size) (hu : ∀ j q, u.cells.toList[j]? = some q → w.cell? (a.add j) = some q)
    (hlen : xs.length + 1 ≤ maxLen) (hroom : (xs.length + 1) * bytes ≤ 140737488355328) :
    ∃ cap w', (Builtin.append_ #[t, t] ty #[.slice (some b) m m, .slice (some a) 1 c]).run P w = .ok (.slice (some ⟨w.heap.size, 0, none⟩) (m + 1) cap) w' ∧
      Own w' w.heap.size e size (.slice (some ⟨w.heap.size, 0, none⟩) (m + 1) cap) (xs ++ [u]) ∧ Below w.heap.size w w' := by
  obtain ⟨ht, ⟨i, z, hi, hz, hsize, hby, hzs⟩, hp⟩ := E
  subst hsize hby hm
  have hcl := cellsOf_len hxs
  have hul : u.cells.toList.length = i.size := by rw [Array.length_toList]; exact hsz
  unfold maxLen at hlen
  have hr := run_append_grow (P := P) w t ty e i z ht hi hz b xs.length xs.length (cellsOf xs) hcl hread a 1 c u.cells.toList (by omega) hu (by omega) (by omega) (growslice_fits (by omega) hroom)
  refine ⟨_, _, hr, ?_, ?_⟩
  · unfold Own
    rw [cellsOf_append, oneCells, List.length_append, List.length_singleton]
    have hge := grownCap_ge w (xs.length + 1) xs.length e
    have hcm : grownCap w (xs.length + 1) xs.length e ≤ maxLen := grownCap_le_maxLen w (xs.length + 1) xs.length e (by unfold maxLen; omega)
    have hll : (cellsOf xs ++ u.cells.toList).length = (xs.length + 1) * i.size := by rw [List.length_append, hcl, hul, Nat.add_mul, Nat.one_mul]
    refine ⟨hll, .inr ⟨w.heap.size, _, _, rfl, Nat.le_refl _, heap_alloc_new w.drew _, hge, hcm, ?_, ?_⟩⟩
    · rw [Array.size_append, Array.size_append, List.size_toArray, List.size_toArray, size_zeroCells, hzs, ← List.length_append, hll, ← Nat.add_mul]
      congr 1
      omega
    · simp only [Array.toList_append, List.append_assoc]
      rw [← List.append_assoc, ← hll]
      exact List.take_left
  · exact (Below.refl _ _).drew.alloc (Nat.le_refl _) _

theorem St.wpAppFull {P : Program} {w0 w : World} {μ : List Asrt} {t e : TypeId} {size bytes : Nat} (E : ET P t e size bytes) {o : Oper} {a : Act} {K : Act → World → Prop} {Q : Exit → Act → World → Prop}
    (s x : Operand) (ho : o.op = .call { callee := .builtin .append, args := #[s, x], argTypes := #[t, t] }) (h : St w0 w μ) (b : Addr) (xs : List Value) (m : Nat) (hm : m = xs.length) (hs : a.eval s = .slice (some b) m m) (hxs : ∀ u ∈ xs, u.cells.size = size)
    (hread : ∀ j q, (cellsOf xs)[j]? = some q → w.cell? (b.add j) = some q) (u : Value) (ad : Addr) (c : Nat) (hx : a.eval x = .slice (some ad) 1 c) (hsz : u.cells.size = size) (hu : ∀ j q, u.cells.toList[j]? = some q → w.cell? (ad.add j) = some q)
    (hlen : xs.length + 1 ≤ maxLen) (hroom : (xs.length + 1) * bytes ≤ 140737488355328)
    (hK : ∀ g' cap w', St w0 w' (aOwn e size (.slice (some ⟨g', 0, none⟩) (m + 1) cap) (xs ++ [u]) :: μ) → K (a.put o.dst (.slice (some ⟨g', 0, none⟩) (m + 1) cap)) w') : o.wp P a w K Q := by
  obtain ⟨cap, w', hr, ho2, hb⟩ := run_append_full (ty := o.type) E b xs m hm hxs hread u ad c hsz hu hlen hroom
  unfold Oper.wp execOp
  simp only [ho, resolve, invoke, builtin, Sem.run_bind, Sem.run_pure, Result.andThen_ok, List.map_toArray, List.map_cons, List.map_nil, hs, hx, hr]
  exact hK _ cap w' (h.pushOwn hb ho2)

theorem St.appFull {P : Program} {w0 w : World} {μ : List Asrt} {t e : TypeId} {size bytes : Nat} (E : ET P t e size bytes) {ops : Array Oper} {rest : List Oper} {o : Oper} {a : Act} {Q : Exit → Act → World → Prop} (hgd : o.guard = none)
    (s x : Operand) (ho : o.op = .call { callee := .builtin .append, args := #[s, x], argTypes := #[t, t] }) (h : St w0 w μ) (b : Addr) (xs : List Value) (m : Nat) (hm : m = xs.length) (hs : a.eval s = .slice (some b) m m) (hxs : ∀ u ∈ xs, u.cells.size = size)
    (hread : ∀ j q, (cellsOf xs)[j]? = some q → w.cell? (b.add j) = some q) (u : Value) (ad : Addr) (c : Nat) (hx : a.eval x = .slice (some ad) 1 c) (hsz : u.cells.size = size) (hu : ∀ j q, u.cells.toList[j]? = some q → w.cell? (ad.add j) = some q)
    (hlen : xs.length + 1 ≤ maxLen) (hroom : (xs.length + 1) * bytes ≤ 140737488355328)
    (hK : ∀ g' cap w', St w0 w' (aOwn e size (.slice (some ⟨g', 0, none⟩) (m + 1) cap) (xs ++ [u]) :: μ) → wpList P ops Q rest (a.put o.dst (.slice (some ⟨g', 0, none⟩) (m + 1) cap)) w') : wpList P ops Q (o :: rest) a w :=
  wpList_plain hgd fun K hK' => St.wpAppFull E s x ho h b xs m hm hs hxs hread u ad c hx hsz hu hlen hroom fun g' cap w' h' => hK' _ _ (hK g' cap w' h')
/-- The same, u laid into a new block just before. -/
theorem St.appFull1n {P : Program} {w0 W : World} {μ : List Asrt} {t e : TypeId} {size bytes : Nat} (E : ET P t e size bytes) {ops : Array Oper} {rest : List Oper} {o : Oper} {a : Act} {Q : Exit → Act → World → Prop} {cs : Array Value} {T : TypeId} (hgd : o.guard = none)
    (s x : Operand) (ho : o.op = .call { callee := .builtin .append, args := #[s, x], argTypes := #[t, t] }) (h : St w0 W μ) (b : Addr) (xs : List Value) (m : Nat) (hm : m = xs.length) (hs : a.eval s = .slice (some b) m m) (hxs : ∀ u ∈ xs, u.cells.size = size)
    (hread : ∀ j q, (cellsOf xs)[j]? = some q → (W.alloc (.cells cs T)).cell? (b.add j) = some q) (u : Value) (hcs : cs = u.cells) (g c : Nat) (hx : a.eval x = .slice (some ⟨g, 0, none⟩) 1 c) (hg : g = W.heap.size) (hsz : u.cells.size = size)
    (hlen : xs.length + 1 ≤ maxLen) (hroom : (xs.length + 1) * bytes ≤ 140737488355328)
    (hK : ∀ g' cap w', St w0 w' (aOwn e size (.slice (some ⟨g', 0, none⟩) (m + 1) cap) (xs ++ [u]) :: μ) → wpList P ops Q rest (a.put o.dst (.slice (some ⟨g', 0, none⟩) (m + 1) cap)) w') : wpList P ops Q (o :: rest) a (W.alloc (.cells cs T)) := by
  subst hg hcs
  refine St.appFull E hgd s x ho (h.skip _) b xs m hm hs hxs hread u ⟨_, 0, none⟩ c hx hsz (fun j q hq => ?_) hlen hroom hK
  have hadd : (⟨W.heap.size, 0, none⟩ : Addr).add j = ⟨W.heap.size, j, none⟩ := by unfold Addr.add; split <;> simp_all
  rw [hadd]
  exact cells_lit _ _ j q hq
/-- append(s, u) at a step of a region that draws its order, u lying wherever it lies. -/
theorem St.stepU {P : Program} {w0 w : World} {μ : List Asrt} {t e : TypeId} {size bytes : Nat} (E : ET P t e size bytes) {ops : Array Oper} {o : Oper} {a : Act} {K : Act → World → Prop} {Q : Exit → Act → World → Prop} {EE : Prop}
    (hgd : o.guard = none) (s x : Operand) (ho : o.op = .call { callee := .builtin .append, args := #[s, x], argTypes := #[t, t] }) {v : Value} {xs : List Value} (hs : a.eval s = v)
    (h : St w0 w (aOwn e size v xs :: μ)) (u : Value) (g c : Nat) (hx : a.eval x = .slice (some ⟨g, 0, none⟩) 1 c) (hu : ∀ j q, u.cells.toList[j]? = some q → w.cell? ⟨g, j, none⟩ = some q)
    (hsz : u.cells.size = size) (h1 : ∀ q ∈ u.cells.toList, q.oneCell' = true) (hlen : xs.length + 1 ≤ maxLen) (hroom : (xs.length + 1) * bytes ≤ 140737488355328)
    (hK : ∀ g' n' cap w', St w0 w' (aOwn e size (.slice (some ⟨g', 0, none⟩) n' cap) (xs ++ [u]) :: μ) → K (a.put o.dst (.slice (some ⟨g', 0, none⟩) n' cap)) w') :
    if Region.wanted o (yielded ops a.tmps) = true then Oper.wp P o a w K Q else EE := by
  have hw : Region.wanted o (yielded ops a.tmps) = true := by simp [Region.wanted, hgd]
  rw [if_pos hw]
  refine St.wpApp E s x ho hs h [u] ⟨g, 0, none⟩ 1 c hx rfl (fun j q hq => ?_) (by simpa using hsz) (by rw [oneCells]; exact h1) (by omega) hlen hroom hK
  have hadd : (⟨g, 0, none⟩ : Addr).add j = ⟨g, j, none⟩ := by unfold Addr.add; split <;> simp_all
  rw [hadd]
  rw [oneCells] at hq
  exact hu j q hq
theorem St.celsAt {w0 w : World} {μ : List Asrt} {g : Nat} {T : TypeId} {u : Value} (h : St w0 w μ) (i : Nat) (hA : μ[i]? = some (aCel g T u.cells)) : ∀ j q, u.cells.toList[j]? = some q → w.cell? ⟨g, j, none⟩ = some q := by
  intro j q hq
  refine (h.nth i hA).celAt ?_
  simpa using hq
theorem St.ofBel {w w' : World} (hb : Below w.heap.size w w') : St w w' [] := (St.init w).call hb
end Go.Proofs.Ytahoapgmiecphaa

/-
  Blocks of four cells. (A helper text; it claims nothing of the program.)
-/
namespace Go.Proofs.Ytahoapgmiecphaa
set_option linter.unusedVariables false
open Go.ChangeShapes Go.WideShapes Go.ChangeAt Go.RowKit

theorem St.at4 {w0 w : World} {μ : List Asrt} {g : Nat} {T : TypeId} {v0 v1 v2 v3 : Value} (h : St w0 w μ) (i : Nat) (hA : μ[i]? = some (aCel g T #[v0, v1, v2, v3])) : w.cell? ⟨g, 0, none⟩ = some v0 ∧ w.cell? ⟨g, 1, none⟩ = some v1 ∧ w.cell? ⟨g, 2, none⟩ = some v2 ∧ w.cell? ⟨g, 3, none⟩ = some v3 :=
  ⟨(h.nth i hA).celAt rfl, (h.nth i hA).celAt rfl, (h.nth i hA).celAt rfl, (h.nth i hA).celAt rfl⟩
theorem St.cel4 {w0 w : World} {μ : List Asrt} {g : Nat} {T : TypeId} {v0 v1 v2 v3 : Value} (h : St w0 w (aCel g T #[v0, v1, v2, v3] :: μ)) :
    w.cell? ⟨g, 0, none⟩ = some v0 ∧ w.cell? ⟨g, 1, none⟩ = some v1 ∧ w.cell? ⟨g, 2, none⟩ = some v2 ∧ w.cell? ⟨g, 3, none⟩ = some v3 ∧ w.frozen? ⟨g, 0, none⟩ = false ∧ w.frozen? ⟨g, 1, none⟩ = false ∧ w.frozen? ⟨g, 2, none⟩ = false ∧ w.frozen? ⟨g, 3, none⟩ = false :=
  ⟨h.celAt rfl, h.celAt rfl, h.celAt rfl, h.celAt rfl, h.celFree 0, h.celFree 1, h.celFree 2, h.celFree 3⟩
end Go.Proofs.Ytahoapgmiecphaa

/-
  A slice of a slice, as lists; more on what a call owns. (A helper text; it claims nothing of the program.)
-/
namespace Go.Proofs.Ytahoapgmiecphaa
set_option linter.unusedVariables false
open Go.ChangeShapes Go.WideShapes Go.ChangeAt Go.RowKit

theorem Enc.sliced {α : Type} {E : Enc α} {bytes : Nat} {F : Nat → Prop} {w : World} {ao : Option Addr} {cap : Nat} {l : List α} (h : (E.sl bytes).R F w [.slice ao l.length cap] l) (lo hi : Nat) (h1 : lo ≤ hi) (h2 : hi ≤ l.length) :
    (E.sl bytes).R F w [Go.sliced ao lo hi cap E.size] ((l.take hi).drop lo) := by
  obtain ⟨ao', b, off, cap', e, c1, c2, c3, c4, c5, c6⟩ := h
  simp only [List.cons.injEq, Value.slice.injEq, true_and, and_true] at e
  obtain ⟨rfl, rfl⟩ := e
  have hlen : ((l.take hi).drop lo).length = hi - lo := by simp; omega
  have hby : (((l.take hi).drop lo).length : Int) * bytes ≤ 140737488355328 := by
    rw [hlen]
    refine Int.le_trans ?_ c3
    exact Int.mul_le_mul_of_nonneg_right (by omega) (by omega)
  cases ao with
  | none =>
    have hl0 : l.length = 0 := by
      rcases Nat.eq_zero_or_pos l.length with h | h
      · exact h
      · have := (c5 h).1; cases this
    have hc := c4 rfl
    subst hc
    refine ⟨none, 0, 0, 0, ?_, by rw [hlen]; omega, by decide, hby, fun _ => rfl, fun h => by rw [hlen] at h; omega, fun i hi => by rw [hlen] at hi; omega⟩
    simp [Go.sliced, hlen]
  | some a =>
    by_cases hp : 0 < hi - lo
    · obtain ⟨e1, hb, hF⟩ := c5 (by omega)
      cases e1
      refine ⟨some ⟨b, off + lo * E.size, none⟩, b, off + lo * E.size, cap - lo, ?_, by rw [hlen]; omega, by omega, hby, (fun h => by cases h), fun _ => ⟨rfl, hb, hF⟩, fun i hi2 => ?_⟩
      · rw [hlen, Go.sliced, if_neg (by omega)]
        simp only [Option.map_some, Addr.add]
        split
        · rename_i h0; rw [h0]; rfl
        · rfl
      · rw [hlen] at hi2
        obtain ⟨cs, g1, g2, g3⟩ := c6 (lo + i) (by omega)
        refine ⟨cs, g1, fun j hj => ?_, ?_⟩
        · rw [← g2 j hj, show off + lo * E.size + i * E.size + j = off + (lo + i) * E.size + j by rw [Nat.add_mul]; omega]
        · have e2 : ((l.take hi).drop lo)[i]'(by rw [hlen]; exact hi2) = l[lo + i]'(by omega) := by simp
          rw [e2]; exact g3
    · refine ⟨if cap = lo then some a else some (a.add (lo * E.size)), 0, 0, cap - lo, ?_, by rw [hlen]; omega, by omega, hby, (fun h => by split at h <;> cases h), fun h => by rw [hlen] at h; omega, fun i hi2 => by rw [hlen] at hi2; omega⟩
      rw [hlen, Go.sliced]
      simp

section
variable {w0 w w' : World} {μ ν : List Asrt} {A B C D E : Asrt}
theorem St.get5 (h : St w0 w (A :: B :: C :: D :: E :: μ)) : St w0 w (E :: A :: B :: C :: D :: μ) :=
  h.perm ((((((List.Perm.swap _ _ _).cons _).cons _).cons _).trans ((((List.Perm.swap _ _ _).cons _).cons _).trans (((List.Perm.swap _ _ _).cons _).trans (List.Perm.swap _ _ _)))))
/-- The first two alone. -/
theorem St.two (h : St w0 w (A :: B :: μ)) : St w0 w [A, B] := by
  refine ⟨h.bel, fun X hX => h.ok X ?_, fun X hX => h.lo X ?_, ?_⟩
  · rcases List.mem_cons.1 hX with rfl | hX
    · exact .head _
    · rw [List.mem_singleton.1 hX]; exact .tail _ (.head _)
  · rcases List.mem_cons.1 hX with rfl | hX
    · exact .head _
    · rw [List.mem_singleton.1 hX]; exact .tail _ (.head _)
  · refine h.sep.sublist ?_
    simp only [List.flatMap_cons, List.flatMap_nil, List.append_nil]
    exact (List.Sublist.refl _).append (List.sublist_append_left _ _)
/-- What a call has made is the caller's. -/
theorem St.join (h : St w0 w μ) (h2 : St w w' ν) : St w0 w' (ν ++ μ) := by
  have h3 := h.call h2.bel
  refine ⟨h3.bel, fun X hX => ?_, fun X hX b hb => ?_, ?_⟩
  · rcases List.mem_append.1 hX with hX | hX
    · exact h2.ok X hX
    · exact h3.ok X hX
  · rcases List.mem_append.1 hX with hX | hX
    · exact ⟨Nat.le_trans h.bel.size (h2.lo X hX b hb).1, (h2.lo X hX b hb).2⟩
    · exact h3.lo X hX b hb
  · rw [List.flatMap_append, List.nodup_append]
    refine ⟨h2.sep, h.sep, fun b hb c hc e => ?_⟩
    subst e
    obtain ⟨X, hX, hb2⟩ := List.mem_flatMap.1 hb
    obtain ⟨Y, hY, hc2⟩ := List.mem_flatMap.1 hc
    have := (h2.lo X hX b hb2).1
    have := (h.lo Y hY b hc2).2
    omega
end
end Go.Proofs.Ytahoapgmiecphaa

/-
  Many assertions as one; a result whose parts lie in several blocks, all made by the call. (A helper text; it claims nothing of the program.)
-/
namespace Go.Proofs.Ytahoapgmiecphaa
set_option linter.unusedVariables false
open Go.ChangeShapes Go.WideShapes Go.ChangeAt Go.RowKit

/-- All of them. -/
def aAll (As : List Asrt) : Asrt where
  fp := As.flatMap (·.fp)
  ok := fun w => ∀ A ∈ As, A.ok w
  loc := fun w w' h hw A hA => A.loc w w' (fun b hb => h b (List.mem_flatMap.2 ⟨A, hA, hb⟩)) (hw A hA)
/-- The values vs read as l, all of it in the blocks fp. -/
def aEnc {α : Type} (E : Enc α) (fp : List Nat) (vs : List Value) (l : α) : Asrt where
  fp := fp
  ok := fun w => E.R (fun b => b ∈ fp) w vs l
  loc := fun w w' h hw => E.mono hw (fun _ h => h) h

section
variable {w0 w w' : World} {μ : List Asrt} {A : Asrt} {As : List Asrt}
theorem St.nilAll (h : St w0 w μ) : St w0 w (aAll [] :: μ) := h.push (Below.refl _ _) (fun _ h => by cases h) (fun b hb => by simp [aAll] at hb) (by simp [aAll])
theorem St.snoc (h : St w0 w (A :: aAll As :: μ)) : St w0 w (aAll (As ++ [A]) :: μ) := by
  refine ⟨h.bel, fun B hB => ?_, fun B hB b hb => ?_, ?_⟩
  · rcases List.mem_cons.1 hB with rfl | hB
    · intro C hC
      rcases List.mem_append.1 hC with h1 | h1
      · exact h.ok _ (.tail _ (.head _)) C h1
      · rw [List.mem_singleton.1 h1]; exact h.ok _ (.head _)
    · exact h.ok B (.tail _ (.tail _ hB))
  · rcases List.mem_cons.1 hB with rfl | hB
    · simp only [aAll, List.flatMap_append, List.mem_append, List.flatMap_cons, List.flatMap_nil, List.append_nil] at hb
      rcases hb with h1 | h1
      · exact h.lo _ (.tail _ (.head _)) b h1
      · exact h.lo _ (.head _) b h1
    · exact h.lo B (.tail _ (.tail _ hB)) b hb
  · have := h.sep
    simp only [aAll, List.flatMap_cons, List.flatMap_append, List.flatMap_nil, List.append_nil] at this ⊢
    refine (List.Perm.nodup_iff ?_).1 this
    rw [← List.append_assoc]
    exact (List.perm_append_comm).append_right _
theorem St.allAt (h : St w0 w (aAll As :: μ)) (B : Asrt) (hB : B ∈ As) : B.ok w := h.ok _ (.head _) B hB
/-- Two assertions as one. -/
theorem St.merge {B C : Asrt} (h : St w0 w (A :: B :: μ)) (hfp : C.fp = A.fp ++ B.fp) (hok : A.ok w → B.ok w → C.ok w) : St w0 w (C :: μ) := by
  refine ⟨h.bel, fun D hD => ?_, fun D hD b hb => ?_, ?_⟩
  · rcases List.mem_cons.1 hD with rfl | hD
    · exact hok (h.ok _ (.head _)) (h.ok _ (.tail _ (.head _)))
    · exact h.ok D (.tail _ (.tail _ hD))
  · rcases List.mem_cons.1 hD with rfl | hD
    · rw [hfp] at hb
      rcases List.mem_append.1 hb with h1 | h1
      · exact h.lo _ (.head _) b h1
      · exact h.lo _ (.tail _ (.head _)) b h1
    · exact h.lo D (.tail _ (.tail _ hD)) b hb
  · have := h.sep
    simp only [List.flatMap_cons] at this ⊢
    rw [hfp, List.append_assoc]
    exact this
theorem St.encR {α : Type} {E : Enc α} {fp : List Nat} {vs : List Value} {l : α} (h : St w0 w (aEnc E fp vs l :: μ)) : E.R (fun b => b < w.heap.size) w vs l :=
  E.mono (h.ok _ (.head _)) (fun b hb => (h.lo _ (.head _) b hb).2) (fun _ _ => rfl)
theorem St.encAt {α : Type} {E : Enc α} {fp : List Nat} {vs : List Value} {l : α} (h : St w0 w μ) (i : Nat) (hA : μ[i]? = some (aEnc E fp vs l)) : E.R (fun b => b < w.heap.size) w vs l := (h.nth i hA).encR
end

/-- Seen through g. -/
def Enc.via {α β : Type} (En : Enc α) (g : β → α) : Enc β where
  size := En.size
  R := fun F w cs q => En.R F w cs (g q)
  len := fun h => En.len h
  mono := fun h => En.mono h
theorem Enc.viaSl {α β : Type} {En : Enc α} {g : β → α} {bytes : Nat} {F : Nat → Prop} {w : World} {vs : List Value} {L : List β} (h : ((En.via g).sl bytes).R F w vs L) : (En.sl bytes).R F w vs (L.map g) := by
  obtain ⟨ao, b, off, cap, h0, h1, h2, h3, h4, h5, h6⟩ := h
  refine ⟨ao, b, off, cap, by rw [List.length_map]; exact h0, by rw [List.length_map]; exact h1, h2, by rw [List.length_map]; exact h3, h4, by rw [List.length_map]; exact h5, fun i hi => ?_⟩
  rw [List.length_map] at hi
  obtain ⟨cs, g1, g2, g3⟩ := h6 i hi
  exact ⟨cs, g1, g2, by rw [List.getElem_map]; exact g3⟩
theorem Own.encVia {α β : Type} {En : Enc α} {w : World} {B : Nat} {e : TypeId} {size bytes : Nat} {v : Value} {L : List β} {f : β → Value} {g : β → α} {F : Nat → Prop} (h : Own w B e size v (L.map f)) (hes : En.size = size) (hR : ∀ q ∈ L, En.R F w (f q).cells.toList (g q)) (hF : ∀ b ∈ v.ownBlock.toList, F b)
    (hb : (L.length : Int) * bytes ≤ 140737488355328) : (En.sl bytes).R F w [v] (L.map g) :=
  Enc.viaSl (Own.enc (En := En.via g) (f := f) h hes hR hF hb)

/-- A slice of things that have parts of their own: as one. -/
theorem St.sealed {α β : Type} {En : Enc α} {w0 w : World} {μ : List Asrt} {e : TypeId} {size bytes : Nat} {v : Value} {L : List β} {f : β → Value} {g : β → α} {A : β → Asrt} (h : St w0 w (aOwn e size v (L.map f) :: aAll (L.map A) :: μ)) (hes : En.size = size)
    (hR : ∀ q ∈ L, (A q).ok w → En.R (fun b => b ∈ (A q).fp) w (f q).cells.toList (g q)) (hb : (L.length : Int) * bytes ≤ 140737488355328) :
    ∃ fp, St w0 w (aEnc (En.sl bytes) fp [v] (L.map g) :: μ) := by
  refine ⟨v.ownBlock.toList ++ (aAll (L.map A)).fp, h.merge rfl (fun h1 h2 => ?_)⟩
  refine Own.encVia (f := f) h1 hes (fun q hq => ?_) (fun b hb => List.mem_append.2 (.inl hb)) hb
  exact En.mono (hR q hq (h2 _ (List.mem_map.2 ⟨q, hq, rfl⟩))) (fun b hb => List.mem_append.2 (.inr (List.mem_flatMap.2 ⟨_, List.mem_map.2 ⟨q, hq, rfl⟩, hb⟩))) (fun _ _ => rfl)
theorem St.ownEnc {α : Type} {En : Enc α} {w0 w : World} {μ : List Asrt} {e : TypeId} {size bytes : Nat} {v : Value} {l : List α} {f : α → Value} (h : St w0 w (aOwn e size v (l.map f) :: μ)) (hes : En.size = size) (hR : ∀ F W, ∀ a ∈ l, En.R F W (f a).cells.toList a) (hb : (l.length : Int) * bytes ≤ 140737488355328) :
    St w0 w (aEnc (En.sl bytes) v.ownBlock.toList [v] l :: μ) :=
  h.turn rfl (Own.enc (f := f) (h.ok _ (.head _)) hes (fun a ha => hR _ _ a ha) (fun b hb => hb) hb)
/-- A callee's results. -/
theorem St.joined {w0 w w' : World} {μ ν : List Asrt} (h : St w0 w μ) (h2 : St w w' ν) : St w0 w' (ν ++ μ) := h.join h2
end Go.Proofs.Ytahoapgmiecphaa
