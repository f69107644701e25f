/-
  Parts of the proof of RexReads, put together: Mem OwnSet Read Sep Enc EncOps SepRd SepAt Sliced SepAll TrOpen RxOpen SepPick SepMap MapKey MapView Has Dm Makes SepRow Cs SepAt4 Rc StrIx Rct Rcr Rcs. (Helper texts.)
-/
import Derived.Test.YtfelikfppjlcmaaRows
import Derived.WalkKit
import Derived.ProofKit
import Derived.OpenShut
import Derived.ShutString
import Derived.Lib.Hide
import Derived.Outline
import Derived.WalkLawsBesides
import Derived.WalkSpells
import Derived.Laws.BitsAllLaws
import Derived.Laws.BytesArg
import Derived.Deep.QuietTactic
import Derived.BigQuiet
import Derived.Deep.DeepFit
import Derived.Deep.RegionWith
import Derived.Deep.RegionHeld3
import Derived.StillTailTactics
import Derived.Deep.LoopGhost
import Derived.Lib.AppendStr
import Derived.Lib.SmallJoins
import Derived.ChangeOld
import Derived.Deep.Slices
import Derived.Deep.MidRow
import Derived.SizedLaws
import Derived.Deep.OwnRows
import Derived.Laws.AppendOwnNone
import Derived.Deep.DeepCutAuto
import Derived.Maps.OwnSet
import Derived.WideKeyArr
import Derived.Laws.Bits64b
import Derived.Deep.RegionLaw
import Derived.Laws.ResultCell
import Derived.Laws.Tables
import Derived.Deep.RegionHeld
import Derived.Laws.Externs
import Derived.Lib.IndexBytes
import Derived.Lib.IndexAny

/-
  Memory that a call makes itself: slices as lists of elements. Laws for append, for reading, for a text made of bytes. (A helper text; it claims nothing of the program.)
-/
namespace Go.Proofs.Ytfelikfppjlcmaa
set_option linter.unusedVariables false
open Go.ChangeShapes Go.WideShapes Go.ChangeAt Go.RowKit

theorem ret_int {k : IntKind} {a b : Int} (h : a = b) : Ending.returned (.int k a) = .returned (.int k b) := by rw [h]
theorem int_eq {k : IntKind} {a b : Int} (h : a = b) : Value.int k a = .int k b := by rw [h]

/-- A slice type t with elements of type e, each of 'size' cells and 'bytes' bytes. -/
structure ET (P : Program) (t e : TypeId) (size bytes : Nat) : Prop where
  ht : P.underlying t = some (.slice e)
  info : ∃ i z, P.info? e = some i ∧ i.zero = some z ∧ i.size = size ∧ i.bytes = bytes ∧ z.cells.size = size
  pos : 0 < size

theorem ET.mk' {P : Program} {t e : TypeId} {size bytes : Nat} {z : Value} (ht : P.underlying t = some (.slice e))
    (h : (P.info? e).map (fun i => (i.zero, i.size, i.bytes)) = some (some z, size, bytes)) (hz : z.cells.size = size) (hp : 0 < size) : ET P t e size bytes := by
  obtain ⟨i, h1, h2, h3, h4⟩ := info_parts h
  exact ⟨ht, ⟨i, z, h1, h2, h3, h4, hz⟩, hp⟩

def cellsOf (xs : List Value) : List Value := xs.flatMap fun v => v.cells.toList

/-- The slice value v, made by the call itself (its block is B or above), holds just the elements xs. -/
def Own (w : World) (B : Nat) (e : TypeId) (size : Nat) (v : Value) (xs : List Value) : Prop :=
  w.ownsRow B e size v xs.length (cellsOf xs)

theorem cellsOf_append (xs ys : List Value) : cellsOf (xs ++ ys) = cellsOf xs ++ cellsOf ys := by simp [cellsOf]
theorem cellsOf_ints (k : IntKind) (xs : List Int) : cellsOf (xs.map (Value.int k)) = xs.map (Value.int k) := by
  induction xs with
  | nil => rfl
  | cons x xs ih => simpa [cellsOf, Value.cells] using ih

section
variable {w : World} {B : Nat} {e : TypeId} {size : Nat} {v : Value} {xs : List Value}
theorem Own.nil (w : World) (B : Nat) (e : TypeId) (size : Nat) : Own w B e size (.slice none 0 0) [] := World.ownsRow_nil _ _ _ _
theorem Own.alloc (h : Own w B e size v xs) (o : Obj) : Own (w.alloc o) B e size v xs := World.ownsRow.alloc h o
theorem Own.drew (h : Own w B e size v xs) : Own w.drew B e size v xs := h
theorem Own.kept {w' : World} {row : Option Nat} (h : Own w B e size v xs) (hg : w.grownBy w' row) (hne : v.ownBlock = none ∨ v.ownBlock ≠ row) : Own w' B e size v xs := World.ownsRow.kept h hg hne
theorem Own.lt (h : Own w B e size v xs) : ∀ k, v.ownBlock = some k → B ≤ k ∧ k < w.heap.size := World.ownsRow.lt h
/-- The shape of the value. -/
theorem Own.shape (h : Own w B e size v xs) : (v = .slice none 0 0 ∧ xs = []) ∨ ∃ g cap, v = .slice (some ⟨g, 0, none⟩) xs.length cap ∧ B ≤ g ∧ g < w.heap.size := by
  rcases h.2 with ⟨h1, h2⟩ | ⟨g, cap, cur, h1, h2, h3, _⟩
  · exact .inl ⟨h1, List.eq_nil_of_length_eq_zero h2⟩
  · exact .inr ⟨g, cap, h1, h2, (Array.getElem?_eq_some_iff.1 h3).1⟩
/-- Below a block number that is no greater than the slice's own nothing of it lies: a world that is the same from the block up to 'B2' keeps it. -/
theorem Own.below {w' : World} {B2 : Nat} (h : Own w B e size v xs) (hb : Below B2 w w') (hlt : ∀ k, v.ownBlock = some k → k < B2) : Own w' B e size v xs := by
  refine ⟨h.1, ?_⟩
  rcases h.2 with hn | ⟨g, cap, cur, rfl, hB, hgg, rest⟩
  · exact .inl hn
  · refine .inr ⟨g, cap, cur, rfl, hB, ?_, rest⟩
    rw [hb.block g (hlt g rfl)]
    exact hgg
theorem Own.len {g n cap : Nat} (h : Own w B e size (.slice (some ⟨g, 0, none⟩) n cap) xs) : n = xs.length := by
  rcases h.2 with ⟨h1, _⟩ | ⟨g', cap', cur, h1, _⟩
  · cases h1
  · simp only [Value.slice.injEq] at h1; exact h1.2.1
theorem Own.call {w' : World} (h : Own w B e size v xs) (hb : Below w.heap.size w w') : Own w' B e size v xs :=
  h.below hb fun k hk => (h.lt k hk).2
end

theorem oneCells (u : Value) : cellsOf [u] = u.cells.toList := by simp [cellsOf]

/-- append(s, u): one element more. -/
theorem app1 {P : Program} {w : World} {t e : TypeId} {size bytes : Nat} (E : ET P t e size bytes) {ops : Array Oper} {rest : List Oper} {o : Oper} {a : Act} {Q : Exit → Act → World → Prop}
    (hgd : o.guard = none) (s x : Operand)
    (ho : o.op = .call { callee := .builtin .append, args := #[s, x], argTypes := #[t, t] }) (B : Nat) {v : Value} (xs : List Value)
    (hs : a.eval s = v) (hown : Own w B e size v xs) (u : Value) (g c : Nat) (hx : a.eval x = .slice (some ⟨g, 0, none⟩) 1 c)
    (hu : ∀ j q, u.cells.toList[j]? = some q → w.cell? ⟨g, j, none⟩ = some q) (hsz : u.cells.toList.length = size) (h1 : ∀ q ∈ u.cells.toList, q.oneCell' = true)
    (hroom : (xs.length + 1) * bytes ≤ 140737488355328) (hlen : xs.length + 1 ≤ maxLen) (hB : B ≤ w.heap.size)
    (h : ∀ g' n' cap w', Own w' B e size (.slice (some ⟨g', 0, none⟩) n' cap) (xs ++ [u]) → w.grownBy w' v.ownBlock → B ≤ g' → g' < w'.heap.size →
      wpList P ops Q rest (a.put o.dst (.slice (some ⟨g', 0, none⟩) n' cap)) w') : wpList P ops Q (o :: rest) a w := by
  obtain ⟨ht, ⟨i, z, hi, hz, hsize, hby, hzs⟩, hp⟩ := E
  refine wpList_append_own w hgd s x t ho B e i z size bytes ht hi hz hsize hby hzs hp v xs.length (cellsOf xs) hs hown ⟨g, 0, none⟩ 1 c u.cells.toList hx (by omega) ?_ h1 hlen hroom hB ?_
  · intro j q hq
    have hadd : (⟨g, 0, none⟩ : Addr).add j = ⟨g, j, none⟩ := by unfold Addr.add; split <;> simp_all
    rw [hadd]
    exact hu j q hq
  · intro v' w' hown' hgrow hnil
    have hown2 : Own w' B e size v' (xs ++ [u]) := by
      unfold Own
      rw [cellsOf_append, oneCells u, List.length_append]
      exact hown'
    rcases hown2.shape with ⟨h1, h2⟩ | ⟨g', cap, h1, h2, h3⟩
    · simp at h2
    · subst h1
      exact h g' _ cap w' hown2 hgrow h2 h3

/-- append(s, c) of a number. -/
theorem app1i {P : Program} {w : World} {t e : TypeId} {bytes : Nat} (E : ET P t e 1 bytes) {ops : Array Oper} {rest : List Oper} {o : Oper} {a : Act} {Q : Exit → Act → World → Prop}
    (hgd : o.guard = none) (s x : Operand)
    (ho : o.op = .call { callee := .builtin .append, args := #[s, x], argTypes := #[t, t] }) (B : Nat) {v : Value} {k : IntKind} (xs : List Int)
    (hs : a.eval s = v) (hown : Own w B e 1 v (xs.map (Value.int k))) (n : Int) (g c : Nat) (hx : a.eval x = .slice (some ⟨g, 0, none⟩) 1 c)
    (hu : w.cell? ⟨g, 0, none⟩ = some (.int k n)) (hroom : (xs.length + 1) * bytes ≤ 140737488355328) (hlen : xs.length + 1 ≤ maxLen) (hB : B ≤ w.heap.size)
    (h : ∀ g' n' cap w', Own w' B e 1 (.slice (some ⟨g', 0, none⟩) n' cap) ((xs ++ [n]).map (Value.int k)) → w.grownBy w' v.ownBlock → B ≤ g' → g' < w'.heap.size →
      wpList P ops Q rest (a.put o.dst (.slice (some ⟨g', 0, none⟩) n' cap)) w') : wpList P ops Q (o :: rest) a w := by
  refine app1 E hgd s x ho B (xs.map (Value.int k)) hs hown (.int k n) g c hx ?_ rfl ?_ (by simpa using hroom) (by simpa using hlen) hB ?_
  · intro j q hq
    match j, hq with
    | 0, hq => simp [Value.cells] at hq; subst hq; exact hu
    | j + 1, hq => simp [Value.cells] at hq
  · intro q hq; simp [Value.cells] at hq; subst hq; rfl
  · intro g' n' cap w' h1 h2 h3 h4
    refine h g' n' cap w' ?_ h2 h3 h4
    rw [List.map_append]; exact h1

theorem cell_new (w : World) (v : Value) (T : TypeId) : (w.alloc (.cells #[v] T)).cell? ⟨w.heap.size, 0, none⟩ = some v := by
  rw [World.cell?_alloc_new]; rfl

/-- string(b), of bytes that the call itself has gathered. -/
theorem str_of_own {P : Program} {w : World} {src e dst : TypeId} {B : Nat} {g n cap : Nat} (hs : P.underlying src = some (.slice e)) (he : P.underlying e = some (.int .u8)) (hd : P.underlying dst = some .string)
    (xs : List Int) (h : Own w B e 1 (.slice (some ⟨g, 0, none⟩) n cap) (xs.map (Value.int .u8))) :
    (convert src dst (.slice (some ⟨g, 0, none⟩) n cap)).run P w = .ok (.string (strOfNums xs)) w := by
  have hn : n = xs.length := by
    rcases h.2 with ⟨h1, _⟩ | ⟨g', cap', cur, h1, _⟩
    · cases h1
    · simp only [Value.slice.injEq] at h1; simpa using h1.2.1
  subst hn
  have hr : w.ownsRow B e 1 (.slice (some ⟨g, 0, none⟩) xs.length cap) xs.length (xs.map (Value.int .u8)) := by
    have := h
    unfold Own at this
    rw [cellsOf_ints, List.length_map] at this
    exact this
  refine run_convert_bytes_arg w src e hs he g 0 xs.length cap xs rfl (fun i hi => ?_) dst hd
  rw [Nat.zero_add, hr.cellAt i (by omega)]
  simp [List.getD, List.getElem?_eq_getElem hi]

/-- string([]byte{c}): the one cell. -/
theorem str_of_one {P : Program} {src e dst : TypeId} (hs : P.underlying src = some (.slice e)) (he : P.underlying e = some (.int .u8)) (hd : P.underlying dst = some .string)
    (c : Int) (b cap : Nat) (w : World) (h : w.cell? ⟨b, 0, none⟩ = some (.int .u8 c)) :
    (convert src dst (.slice (some ⟨b, 0, none⟩) 1 cap)).run P w = .ok (.string (strOfNums [c])) w := by
  refine run_convert_bytes_arg w src e hs he b 0 1 cap [c] rfl (fun i hi => ?_) dst hd
  obtain rfl : i = 0 := by omega
  exact h

theorem bcell {W w1 : World} (hb : Below W.heap.size W w1) : (∀ b o, b < W.heap.size → w1.cell? ⟨b, o, none⟩ = W.cell? ⟨b, o, none⟩) ∧ (∀ b o, b < W.heap.size → w1.frozen? ⟨b, o, none⟩ = W.frozen? ⟨b, o, none⟩) :=
  ⟨fun b o h => hb.cell (p := ⟨b, o, none⟩) h, fun b o h => hb.frozen (p := ⟨b, o, none⟩) h⟩
theorem bkeep {w w' : World} (hb : Below w.heap.size w w') {p : Addr} {c : Value} (h : w.cell? p = some c) : w'.cell? p = some c :=
  (hb.cell (World.block_lt_of_cell? w p h)).trans h

theorem cell_new_drew (w : World) (v : Value) (T : TypeId) : (w.alloc (.cells #[v] T)).drew.cell? ⟨w.heap.size, 0, none⟩ = some v := cell_new w v T
theorem strOfNums_cons (x : Int) (xs : List Int) : strOfNums (x :: xs) = strOfNums [x] ++ strOfNums xs := by
  apply ByteArray.ext
  simp [strOfNums, ByteArray.data_append]
theorem strOfNums_append (xs ys : List Int) : strOfNums (xs ++ ys) = ⟨(strOfNums xs).data ++ (strOfNums ys).data⟩ := by simp [strOfNums]

/-- The bytes of a text as numbers. -/
def strI (s : ByteArray) : List Int := s.data.toList.map fun b => (b.toNat : Int)
theorem strI_length (s : ByteArray) : (strI s).length = s.size := by simp [strI]
theorem strOfNums_strI (s : ByteArray) : strOfNums (strI s) = s := by
  apply ByteArray.ext
  simp [strOfNums, strI, Function.comp_def]
theorem strOfNums_app (xs ys : List Int) : strOfNums (xs ++ ys) = strOfNums xs ++ strOfNums ys := by
  apply ByteArray.ext
  simp [strOfNums, ByteArray.data_append]

/-- A slice that is written out. -/
theorem own_lit {w : World} {B n : Nat} {e : TypeId} {k : IntKind} (cs : Array Value) (xs : List Int) (hcs : cs.toList = xs.map (Value.int k)) (hn : n = xs.length) (hB : B ≤ w.heap.size) (hm : n ≤ maxLen) :
    Own (w.alloc (.cells cs e)) B e 1 (.slice (some ⟨w.heap.size, 0, none⟩) n n) (xs.map (Value.int k)) := by
  have hsz : cs.size = xs.length := by rw [← Array.length_toList, hcs, List.length_map]
  refine ⟨by rw [cellsOf_ints]; simp, .inr ⟨w.heap.size, n, cs, by rw [hn, List.length_map], hB, heap_alloc_new w _, by rw [hn, List.length_map]; exact Nat.le_refl _, hm, by omega, ?_⟩⟩
  rw [hcs, cellsOf_ints]
  exact List.take_of_length_le (by simp)

theorem cells_lit {w : World} (cs : Array Value) (T : TypeId) (j : Nat) (q : Value) (h : cs.toList[j]? = some q) : (w.alloc (.cells cs T)).cell? ⟨w.heap.size, j, none⟩ = some q := by
  rw [World.cell?_alloc_new]; simpa using h

/-- append(s, a, b, ..): some numbers more. -/
theorem appNi {P : Program} {w : World} {t e : TypeId} {bytes : Nat} (E : ET P t e 1 bytes) {ops : Array Oper} {rest : List Oper} {o : Oper} {a : Act} {Q : Exit → Act → World → Prop}
    (hgd : o.guard = none) (s x : Operand)
    (ho : o.op = .call { callee := .builtin .append, args := #[s, x], argTypes := #[t, t] }) (B : Nat) {v : Value} {k : IntKind} (xs news : List Int)
    (hs : a.eval s = v) (hown : Own w B e 1 v (xs.map (Value.int k))) (g m c : Nat) (hx : a.eval x = .slice (some ⟨g, 0, none⟩) m c) (hm : m = news.length)
    (hu : ∀ j q, (news.map (Value.int k))[j]? = some q → w.cell? ⟨g, j, none⟩ = some q) (hne : 0 < news.length) (hroom : (xs.length + news.length) * bytes ≤ 140737488355328) (hlen : xs.length + news.length ≤ maxLen) (hB : B ≤ w.heap.size)
    (h : ∀ g' n' cap w', Own w' B e 1 (.slice (some ⟨g', 0, none⟩) n' cap) ((xs ++ news).map (Value.int k)) → w.grownBy w' v.ownBlock → B ≤ g' → g' < w'.heap.size →
      wpList P ops Q rest (a.put o.dst (.slice (some ⟨g', 0, none⟩) n' cap)) w') : wpList P ops Q (o :: rest) a w := by
  obtain ⟨ht, ⟨i, z, hi, hz, hsize, hby, hzs⟩, hp⟩ := E
  subst hm
  refine wpList_append_own w hgd s x t ho B e i z 1 bytes ht hi hz hsize hby hzs hp v xs.length (xs.map (Value.int k)) hs (by have := hown; unfold Own at this; rw [cellsOf_ints, List.length_map] at this; exact this) ⟨g, 0, none⟩ news.length c (news.map (Value.int k)) hx (by simp) ?_ ?_ hlen hroom hB ?_
  · intro j q hq
    have hadd : (⟨g, 0, none⟩ : Addr).add j = ⟨g, j, none⟩ := by unfold Addr.add; split <;> simp_all
    rw [hadd]
    exact hu j q hq
  · intro q hq; simp only [List.mem_map] at hq; obtain ⟨n, _, rfl⟩ := hq; rfl
  · intro v' w' hown' hgrow hnil
    have hown2 : Own w' B e 1 v' ((xs ++ news).map (Value.int k)) := by
      unfold Own
      rw [cellsOf_ints, List.length_map, List.length_append, List.map_append]
      exact hown'
    rcases hown2.shape with ⟨h1, h2⟩ | ⟨g', cap, h1, h2, h3⟩
    · simp at h2; rw [h2.2] at hne; simp at hne
    · subst h1
      exact h g' _ cap w' hown2 hgrow h2 h3

/-- append(s, l...): whatever the list, also an empty one. -/
theorem appNg {P : Program} {w : World} {t e : TypeId} {bytes : Nat} (E : ET P t e 1 bytes) {ops : Array Oper} {rest : List Oper} {o : Oper} {a : Act} {Q : Exit → Act → World → Prop}
    (hgd : o.guard = none) (s x : Operand)
    (ho : o.op = .call { callee := .builtin .append, args := #[s, x], argTypes := #[t, t] }) (B : Nat) {v : Value} {k : IntKind} (xs news : List Int)
    (hs : a.eval s = v) (hown : Own w B e 1 v (xs.map (Value.int k))) (ad : Addr) (m c : Nat) (hx : a.eval x = .slice (some ad) m c) (hm : m = news.length)
    (hu : ∀ j q, (news.map (Value.int k))[j]? = some q → w.cell? (ad.add j) = some q) (hroom : (xs.length + news.length) * bytes ≤ 140737488355328) (hlen : xs.length + news.length ≤ maxLen) (hB : B ≤ w.heap.size)
    (h : ∀ v' w', Own w' B e 1 v' ((xs ++ news).map (Value.int k)) → w.grownBy w' v.ownBlock → wpList P ops Q rest (a.put o.dst v') w') : wpList P ops Q (o :: rest) a w := by
  obtain ⟨ht, ⟨i, z, hi, hz, hsize, hby, hzs⟩, hp⟩ := E
  subst hm
  refine wpList_append_own w hgd s x t ho B e i z 1 bytes ht hi hz hsize hby hzs hp v xs.length (xs.map (Value.int k)) hs (by have := hown; unfold Own at this; rw [cellsOf_ints, List.length_map] at this; exact this) ad news.length c (news.map (Value.int k)) hx (by simp) hu ?_ hlen hroom hB ?_
  · intro q hq; simp only [List.mem_map] at hq; obtain ⟨n, _, rfl⟩ := hq; rfl
  · intro v' w' hown' hgrow hnil
    refine h v' w' ?_ hgrow
    unfold Own
    rw [cellsOf_ints, List.length_map, List.length_append, List.map_append]
    exact hown'

/-- append(b, s...) of a text; b is not nil. -/
theorem appStr {P : Program} {w : World} {t u e : TypeId} {bytes : Nat} (E : ET P t e 1 bytes) (hby1 : bytes = 1) (hz0 : (P.info? e).map (fun i => i.zero) = some (some (.int .u8 0))) (htu : P.underlying u = some .string) {ops : Array Oper} {rest : List Oper} {o : Oper} {a : Act} {Q : Exit → Act → World → Prop}
    (hgd : o.guard = none) (sl x : Operand)
    (ho : o.op = .call { callee := .builtin .append, args := #[sl, x], argTypes := #[t, u] }) (B : Nat) {g0 n0 cap0 : Nat} (xs : List Int)
    (hs : a.eval sl = .slice (some ⟨g0, 0, none⟩) n0 cap0) (hown : Own w B e 1 (.slice (some ⟨g0, 0, none⟩) n0 cap0) (xs.map (Value.int .u8))) (s : ByteArray) (hx : a.eval x = .string s)
    (hroom : xs.length + s.size ≤ 140737488355328) (hB : B ≤ w.heap.size)
    (h : ∀ g' n' cap w', Own w' B e 1 (.slice (some ⟨g', 0, none⟩) n' cap) ((xs ++ strI s).map (Value.int .u8)) → w.grownBy w' (some g0) → B ≤ g' → g' < w'.heap.size →
      wpList P ops Q rest (a.put o.dst (.slice (some ⟨g', 0, none⟩) n' cap)) w') : wpList P ops Q (o :: rest) a w := by
  obtain ⟨ht, ⟨i, z, hi, hz, hsize, hby, hzs⟩, hp⟩ := E
  subst hby1
  rw [hi] at hz0
  have hz1 : i.zero = some (.int .u8 0) := by simpa using hz0
  refine Lib.wpList_append_own_string w hgd sl x t u ho B e i ht htu hi hz1 hsize hby _ xs.length (xs.map (Value.int .u8)) hs (by have := hown; unfold Own at this; rw [cellsOf_ints, List.length_map] at this; exact this) s hx (by unfold maxLen; omega) hroom hB ?_
  intro v' w' hown' hgrow hnil
  have hown2 : Own w' B e 1 v' ((xs ++ strI s).map (Value.int .u8)) := by
    unfold Own
    rw [cellsOf_ints, List.length_map, List.length_append, strI_length, List.map_append]
    have e2 : (strI s).map (Value.int .u8) = Lib.strCells s := by simp [strI, Lib.strCells, Function.comp_def]
    rw [e2]
    exact hown'
  rcases hown2.shape with ⟨h1, h2⟩ | ⟨g', cap, h1, h2, h3⟩
  · exact absurd (hnil.1 h1).1 (by simp)
  · subst h1
    exact h g' _ cap w' hown2 hgrow h2 h3

theorem intE : ET Try.prog 36 3 1 8 := ET.mk' Try.underlying36 (z := .int .i64 0) (by kernel_rfl) rfl (by decide)
theorem u8E : ET Try.prog 277 5 1 1 := ET.mk' Try.underlying277 (z := .int .u8 0) (by kernel_rfl) rfl (by decide)
end Go.Proofs.Ytfelikfppjlcmaa

/-
  A slice that the call made: one of its elements is stored anew.
-/
namespace Go.Proofs.Ytfelikfppjlcmaa
set_option linter.unusedVariables false
open Go.ChangeShapes Go.WideShapes Go.ChangeAt Go.RowKit

theorem cellsOf_one {α : Type} (f : α → Value) (hf : ∀ a, (f a).cells = #[f a]) (l : List α) : cellsOf (l.map f) = l.map f := by
  induction l with
  | nil => rfl
  | cons a l ih => simpa [cellsOf, hf] using ih

theorem Own.set {α : Type} {f : α → Value} (hf : ∀ a, (f a).cells = #[f a]) {w : World} {B : Nat} {e : TypeId} {g n cap : Nat} {l : List α} (h : Own w B e 1 (.slice (some ⟨g, 0, none⟩) n cap) (l.map f)) (q : Nat) (a : α) :
    Own (w.setCell ⟨g, q, none⟩ (f a)) B e 1 (.slice (some ⟨g, 0, none⟩) n cap) ((l.set q a).map f) := by
  unfold Own at h ⊢
  rw [cellsOf_one f hf, List.length_map] at h ⊢
  rw [List.length_set]
  obtain ⟨h1, h2⟩ := h
  refine ⟨by simp, ?_⟩
  rcases h2 with ⟨h2, _⟩ | ⟨g', cap', cur, hv, hB, hg, hn, hc, hcs, htk⟩
  · cases h2
  · simp only [Value.slice.injEq, Option.some.injEq, Addr.mk.injEq] at hv
    obtain ⟨⟨rfl, _⟩, rfl, rfl⟩ := hv
    refine .inr ⟨g, cap, cur.setIfInBounds q (f a), rfl, hB, heap_setCell_same _ _ _ _ _ _ hg, hn, hc, by simpa using hcs, ?_⟩
    rw [Array.toList_setIfInBounds, List.take_set, htk, List.map_set]

theorem Own.cellAt {α : Type} {f : α → Value} (hf : ∀ a, (f a).cells = #[f a]) {w : World} {B : Nat} {e : TypeId} {g n cap : Nat} {l : List α} (h : Own w B e 1 (.slice (some ⟨g, 0, none⟩) n cap) (l.map f)) (i : Nat) (hi : i < l.length) (d : α) :
    w.cell? ⟨g, i, none⟩ = some (f (l.getD i d)) ∧ w.frozen? ⟨g, i, none⟩ = false ∧ B ≤ g ∧ g < w.heap.size := by
  have hr := h
  unfold Own at hr
  rw [cellsOf_one f hf, List.length_map] at hr
  have h1 := World.ownsRow.cellAt (g := g) (cap := cap) (n := l.length) (by
    rcases hr.2 with ⟨h2, _⟩ | ⟨g', cap', cur, hv, r⟩
    · cases h2
    · simp only [Value.slice.injEq, Option.some.injEq, Addr.mk.injEq] at hv
      obtain ⟨⟨rfl, _⟩, rfl, rfl⟩ := hv
      exact hr) i (by omega)
  refine ⟨by rw [h1]; simp [List.getD, List.getElem?_eq_getElem hi], ?_, ?_⟩
  · rcases hr.2 with ⟨h2, _⟩ | ⟨g', cap', cur, hv, hB, hg, _⟩
    · cases h2
    · simp only [Value.slice.injEq, Option.some.injEq, Addr.mk.injEq] at hv
      obtain ⟨⟨rfl, _⟩, rfl, rfl⟩ := hv
      exact frozen_of_row _ _ _ _ _ hg
  · exact h.lt g rfl
end Go.Proofs.Ytfelikfppjlcmaa

/-
  Arguments that come in, read as plain data: slices as lists, structs field by field. (A helper text; it claims nothing of the program.)
-/
namespace Go.Proofs.Ytfelikfppjlcmaa
set_option linter.unusedVariables false
open Go.ChangeShapes Go.WideShapes Go.ChangeAt Go.RowKit

section
variable {H : Type} {enc : TypeId × Value → H} {P : Program} {w : World} {base : Nat} {spare : Nat → Bool} {held : Bool}

/-- The slice value v reads as the list l: its elements are 'size' cells each, and R tells what such cells read as. -/
def Sl {α : Type} (w : World) (size : Nat) (R : List Value → α → Prop) (v : Value) (l : List α) : Prop :=
  ∃ (ao : Option Addr) (b off cap : Nat), v = .slice ao l.length cap ∧ l.length ≤ cap ∧ cap ≤ maxLen ∧ (0 < l.length → ao = some ⟨b, off, none⟩ ∧ b < w.heap.size) ∧
    ∀ i (h : i < l.length), ∃ cs, cs.length = size ∧ (∀ j, j < size → w.cell? ⟨b, off + i * size + j, none⟩ = cs[j]?) ∧ R cs l[i]

theorem Sl.call {α : Type} {size : Nat} {R R' : List Value → α → Prop} {v : Value} {l : List α} {w' : World} (h : Sl w size R v l) (hb : Below w.heap.size w w') (hR : ∀ cs a, R cs a → R' cs a) : Sl w' size R' v l := by
  obtain ⟨ao, b, off, cap, hv, h1, h2, h3, h4⟩ := h
  refine ⟨ao, b, off, cap, hv, h1, h2, fun hl => ⟨(h3 hl).1, Nat.lt_of_lt_of_le (h3 hl).2 hb.size⟩, fun i hi => ?_⟩
  obtain ⟨cs, h5, h6, h7⟩ := h4 i hi
  exact ⟨cs, h5, fun j hj => by rw [hb.cell (h3 (by omega)).2]; exact h6 j hj, hR _ _ h7⟩

theorem list_of_each {α : Type} {n : Nat} {p : Nat → α → Prop} (h : ∀ i, i < n → ∃ a, p i a) : ∃ l : List α, l.length = n ∧ ∀ i (hi : i < l.length), p i l[i] := by
  induction n with
  | zero => exact ⟨[], rfl, fun i hi => by simp at hi⟩
  | succ n ih =>
    obtain ⟨l, hl, hp⟩ := ih fun i hi => h i (by omega)
    obtain ⟨a, ha⟩ := h n (by omega)
    refine ⟨l ++ [a], by simp [hl], fun i hi => ?_⟩
    by_cases e : i < l.length
    · rw [List.getElem_append_left e]; exact hp i e
    · have e2 : i = l.length := by simp at hi; omega
      subst e2
      rw [List.getElem_append_right (Nat.le_refl _)]
      simpa [hl] using ha

/-- A slice that came in, opened. -/
theorem open_sl {α : Type} {t e : TypeId} {size fuel : Nat} {cs : List Value} {x : DataW H × List MemPlace} {R : List Value → α → Prop} (ht : P.underlying t = some (.slice e)) (hs : P.cellsOf e = size) (hp : 0 < size)
    (h : DataW.trod enc P w base spare held fuel t cs = some x)
    (hR : ∀ n cs y, cs.length = size → DataW.trod enc P w base spare held n e cs = some y → ∃ a, R cs a) : ∃ v l, cs = [v] ∧ Sl w size R v l := by
  rcases DataW.trod_slice ht h with ⟨h0, _⟩ | ⟨a, len, cap, elems, rest, n, _, rfl, _, hb, hl, hm, hlen, hel, _⟩
  · exact ⟨_, [], h0, none, 0, 0, 0, rfl, Nat.le_refl _, by decide, fun h => by simp at h, fun i hi => by simp at hi⟩
  · subst hs
    obtain ⟨b, off, spot⟩ := a
    have each : ∀ i, i < len → ∃ q : α × List Value, (∃ cs', w.cells? base ((⟨b, off, spot⟩ : Addr).add (i * P.cellsOf e)) (P.cellsOf e) = some cs' ∧ q.2 = cs' ∧ R cs' q.1) := by
      intro i hi
      have h1 := hel i hi
      rw [List.getElem?_eq_getElem (by omega)] at h1
      obtain ⟨cs', h2, h3⟩ := Option.bind_eq_some_iff.1 h1
      obtain ⟨hbb, hl2, _⟩ := World.cells?_some h2
      obtain ⟨a, ha⟩ := hR n cs' _ hl2 h3
      exact ⟨(a, cs'), cs', h2, rfl, ha⟩
    obtain ⟨l, hl1, hl2⟩ := list_of_each each
    refine ⟨_, l.map (·.1), rfl, some ⟨b, off, spot⟩, b, off, cap, by simp [hl1], by simp [hl1]; omega, hm, fun hpos => ?_, fun i hi => ?_⟩
    · have hi0 : 0 < l.length := by simpa using hpos
      obtain ⟨cs', h2, _, _⟩ := hl2 0 hi0
      obtain ⟨_, hl3, hc⟩ := World.cells?_some h2
      have h0 := hc 0 hp
      have e : ∃ q, cs'[0]? = some q := ⟨cs'[0]'(by omega), List.getElem?_eq_getElem (by omega)⟩
      obtain ⟨q, hq⟩ := e
      rw [hq] at h0
      have hz : ((⟨b, off, spot⟩ : Addr).add (0 * P.cellsOf e)).add 0 = ⟨b, off, spot⟩ := by simp [Addr.add]
      rw [hz] at h0
      have hspot := World.cell?_spot h0
      have hblk := World.block_lt_of_cell? w _ h0
      simp only at hspot
      subst hspot
      exact ⟨rfl, hblk⟩
    · have hi0 : i < l.length := by simpa using hi
      obtain ⟨cs', h2, h5, h6⟩ := hl2 i hi0
      obtain ⟨_, hl3, hc⟩ := World.cells?_some h2
      have spot0 : spot = none := by
        obtain ⟨cs0, g2, _, _⟩ := hl2 0 (by omega)
        obtain ⟨_, g3, gc⟩ := World.cells?_some g2
        have h0 := gc 0 hp
        rw [List.getElem?_eq_getElem (by omega)] at h0
        have hz : ((⟨b, off, spot⟩ : Addr).add (0 * P.cellsOf e)).add 0 = ⟨b, off, spot⟩ := by simp [Addr.add]
        rw [hz] at h0
        exact World.cell?_spot h0
      subst spot0
      refine ⟨cs', hl3, fun j hj => ?_, by simpa [h5] using h6⟩
      rw [← hc j hj]
      congr 1
      unfold Addr.add
      by_cases e1 : i * P.cellsOf e = 0 <;> by_cases e2 : j = 0 <;> simp [e1, e2]
end

/-! What cells read as. -/
def RInt (k : IntKind) (cs : List Value) (n : Int) : Prop := cs = [.int k n] ∧ (Lit.int k n).wf = true
def RBool (cs : List Value) (b : Bool) : Prop := cs = [.bool b]
def RStr (cs : List Value) (s : ByteArray) : Prop := cs = [.string s] ∧ s.size ≤ maxLen
def RSl {α : Type} (w : World) (size : Nat) (R : List Value → α → Prop) (cs : List Value) (l : List α) : Prop := ∃ v, cs = [v] ∧ Sl w size R v l

section
variable {H : Type} {enc : TypeId × Value → H} {P : Program} {w : World} {base : Nat} {spare : Nat → Bool} {held : Bool} {t e : TypeId} {n : Nat} {cs : List Value} {y : DataW H × List MemPlace}
theorem rInt {k : IntKind} (ht : P.underlying t = some (.int k)) (h : DataW.trod enc P w base spare held n t cs = some y) : ∃ a, RInt k cs a := by
  obtain ⟨m, h1, _, h2⟩ := DataW.trod_int ht h
  exact ⟨m, h1, h2⟩
theorem rBool (ht : P.underlying t = some .bool) (h : DataW.trod enc P w base spare held n t cs = some y) : ∃ a, RBool cs a := by
  obtain ⟨m, h1, _⟩ := DataW.trod_bool ht h
  exact ⟨m, h1⟩
theorem rStr (ht : P.underlying t = some .string) (h : DataW.trod enc P w base spare held n t cs = some y) : ∃ a, RStr cs a := by
  obtain ⟨m, h1, _, h2⟩ := DataW.trod_string ht h
  exact ⟨m, h1, h2⟩
theorem rSl {α : Type} {size : Nat} {R : List Value → α → Prop} (ht : P.underlying t = some (.slice e)) (hs : P.cellsOf e = size) (hp : 0 < size)
    (hR : ∀ n cs y, cs.length = size → DataW.trod enc P w base spare held n e cs = some y → ∃ a, R cs a) (h : DataW.trod enc P w base spare held n t cs = some y) : ∃ l, RSl w size R cs l := by
  obtain ⟨v, l, h1, h2⟩ := open_sl ht hs hp h hR
  exact ⟨l, v, h1, h2⟩
/-- A struct's field. -/
theorem rField {fs : Array Field} (ht : P.underlying t = some (.struct fs)) (h : DataW.trod enc P w base spare held n t cs = some y) (i : Nat) (f : Field) (hf : fs[i]? = some f) :
    ∃ m z, DataW.trod enc P w base spare held m f.type ((cs.drop f.offset).take (P.cellsOf f.type)) = some z := by
  obtain ⟨xs, m, _, _, _, hlen, hel⟩ := DataW.trod_struct ht h
  have h1 := hel i f hf
  have hi : i < fs.size := (Array.getElem?_eq_some_iff.1 hf).1
  rw [List.getElem?_eq_getElem (by omega)] at h1
  exact ⟨m, _, h1⟩
end

/-- Element i of a slice that came in. -/
theorem Sl.range {α : Type} {size : Nat} {R : List Value → α → Prop} {b off : Nat} {l : List α} {w : World}
    (h : ∀ i (h : i < l.length), ∃ cs, cs.length = size ∧ (∀ j, j < size → w.cell? ⟨b, off + i * size + j, none⟩ = cs[j]?) ∧ R cs l[i]) (i : Nat) (hi : i < l.length) :
    ∃ cs, R cs l[i] ∧ w.rangeAt b (off + i * size) cs := by
  obtain ⟨cs, h1, h2, h3⟩ := h i hi
  refine ⟨cs, h3, fun j v hv => ?_⟩
  have hj : j < cs.length := (List.getElem?_eq_some_iff.1 hv).1
  rw [h2 j (by omega), hv]

theorem rangeAt_below {w w' : World} (hb : Below w.heap.size w w') {b off : Nat} {cs : List Value} (h : w.rangeAt b off cs) : w'.rangeAt b off cs :=
  fun j v hv => bkeep hb (h j v hv)

def RRow (k : IntKind) (n : Nat) (cs : List Value) (row : List Int) : Prop := cs = row.map (Value.int k) ∧ row.length = n ∧ ∀ x ∈ row, (Lit.int k x).wf = true

/-- An array of numbers, by value. -/
theorem rRow {H : Type} {enc : TypeId × Value → H} {P : Program} {w : World} {base : Nat} {spare : Nat → Bool} {held : Bool} {t e : TypeId} {m n : Nat} {cs : List Value} {y : DataW H × List MemPlace} {k : IntKind}
    (ht : P.underlying t = some (.array n e)) (he : P.underlying e = some (.int k)) (hc : P.cellsOf e = 1) (hct : P.cellsOf t = n) (h : DataW.trod enc P w base spare held m t cs = some y) : ∃ row, RRow k n cs row := by
  obtain ⟨xs, q, _, _, hl, hx, hel⟩ := DataW.trod_array ht h
  have each : ∀ i, i < n → ∃ a : Int, cs[i]? = some (.int k a) ∧ (Lit.int k a).wf = true := by
    intro i hi
    have h1 := hel i hi
    rw [List.getElem?_eq_getElem (by omega), hc, Nat.mul_one] at h1
    obtain ⟨a, ha, _, hw⟩ := DataW.trod_int he h1
    refine ⟨a, ?_, hw⟩
    have h2 : ((cs.drop i).take 1)[0]? = some (.int k a) := by rw [ha]; rfl
    simpa using h2
  obtain ⟨row, hr1, hr2⟩ := list_of_each each
  refine ⟨row, List.ext_getElem? fun i => ?_, hr1, fun x hx => ?_⟩
  · by_cases hi : i < row.length
    · rw [(hr2 i hi).1, List.getElem?_map, List.getElem?_eq_getElem hi]; rfl
    · rw [List.getElem?_eq_none (by omega), List.getElem?_eq_none (by simp; omega)]
  · obtain ⟨i, hi, rfl⟩ := List.getElem_of_mem hx
    exact (hr2 i hi).2

/-- x[i] of an array of numbers by value. -/
theorem run_index_arr {P : Program} {t e : TypeId} {n : Nat} {k : IntKind} (ht : P.underlying t = some (.array n e)) (he : P.underlying e = some (.int k)) (hs : (P.info? e).map (·.size) = some 1)
    (xs : List Int) (hl : xs.length = n) (i : Nat) (hi : i < n) (w : World) : (Instr.index t (.agg (xs.map (Value.int k)).toArray) (.int .i64 i)).run P w = .ok (.int k (xs.getD i 0)) w := by
  cases hq : P.info? e with
  | none => simp [hq] at hs
  | some inf =>
    have hs1 : inf.size = 1 := by simpa [hq] using hs
    have hil : i < xs.length := by omega
    simp [Instr.index, asIntOf, run_underlying ht, run_underlying he, sizeOf, typeInfo, hq, hs1, part, isAgg, hi, hil]
end Go.Proofs.Ytfelikfppjlcmaa

/-
  What a call owns, as a list of assertions apart from each other. (A helper text; it claims nothing of the program.)
-/
namespace Go.Proofs.Ytfelikfppjlcmaa
set_option linter.unusedVariables false
open Go.ChangeShapes Go.WideShapes Go.ChangeAt Go.RowKit

/-- An assertion on some blocks of memory. -/
structure Asrt where
  fp : List Nat
  ok : World → Prop
  loc : ∀ w w' : World, (∀ b ∈ fp, w'.heap[b]? = w.heap[b]?) → ok w → ok w'

/-- Since w0 the call has made what μ says; all else is as it was. -/
structure St (w0 w : World) (μ : List Asrt) : Prop where
  bel : Below w0.heap.size w0 w
  ok : ∀ A ∈ μ, A.ok w
  lo : ∀ A ∈ μ, ∀ b ∈ A.fp, w0.heap.size ≤ b ∧ b < w.heap.size
  sep : (μ.flatMap (·.fp)).Nodup

theorem Own.loc {w w' : World} {B : Nat} {e : TypeId} {size : Nat} {v : Value} {xs : List Value} (h : Own w B e size v xs) (hb : ∀ b ∈ v.ownBlock.toList, w'.heap[b]? = w.heap[b]?) : Own w' B e size v xs := by
  refine ⟨h.1, ?_⟩
  rcases h.2 with h2 | ⟨g, cap, cur, rfl, hB, hg, hn, hc, hcs, htk⟩
  · exact .inl h2
  · exact .inr ⟨g, cap, cur, rfl, hB, by rw [hb g (by simp [Value.ownBlock])]; exact hg, hn, hc, hcs, htk⟩

/-- A slice of its own. -/
def aOwn (e : TypeId) (size : Nat) (v : Value) (xs : List Value) : Asrt := ⟨v.ownBlock.toList, fun w => Own w 0 e size v xs, fun _ _ hb h => h.loc hb⟩
/-- A block of its own. -/
def aCel (g : Nat) (T : TypeId) (cs : Array Value) : Asrt := ⟨[g], fun w => w.heap[g]? = some (.cells cs T (0, 0)), fun _ _ hb h => by rw [hb g (by simp)]; exact h⟩

theorem Own.base {w : World} {B B' : Nat} {e : TypeId} {size : Nat} {v : Value} {xs : List Value} (h : Own w B e size v xs) (hb : ∀ b ∈ v.ownBlock.toList, B' ≤ b) : Own w B' e size v xs := by
  refine ⟨h.1, ?_⟩
  rcases h.2 with h2 | ⟨g, cap, cur, rfl, hB, hg, hn, hc, hcs, htk⟩
  · exact .inl h2
  · exact .inr ⟨g, cap, cur, rfl, hb g (by simp [Value.ownBlock]), hg, hn, hc, hcs, htk⟩

section
variable {w0 w w' : World} {μ ν : List Asrt} {A A' B C D : Asrt}
theorem St.init (w : World) : St w w [] := ⟨Below.refl _ _, fun _ h => (by cases h), fun _ h => (by cases h), (by simp)⟩
theorem St.call (h : St w0 w μ) (hb : Below w.heap.size w w') : St w0 w' μ := by
  refine ⟨h.bel.trans (hb.mono h.bel.size), fun A hA => A.loc w w' (fun b hb1 => hb.block b (h.lo A hA b hb1).2) (h.ok A hA), fun A hA b hb1 => ⟨(h.lo A hA b hb1).1, Nat.lt_of_lt_of_le (h.lo A hA b hb1).2 hb.size⟩, h.sep⟩
theorem St.drew (h : St w0 w μ) : St w0 w.drew μ := ⟨h.bel.drew, fun A hA => A.loc w _ (fun _ _ => rfl) (h.ok A hA), h.lo, h.sep⟩
theorem St.drewN (h : St w0 w μ) (n : Nat) : St w0 (w.drewN n) μ := ⟨below_drewN h.bel n, fun A hA => A.loc w _ (fun _ _ => rfl) (h.ok A hA), h.lo, h.sep⟩
theorem St.skip (h : St w0 w μ) (o : Obj) : St w0 (w.alloc o) μ := h.call ((Below.refl _ _).alloc (Nat.le_refl _) _)
theorem St.perm (h : St w0 w μ) (hp : μ.Perm ν) : St w0 w ν :=
  ⟨h.bel, fun A hA => h.ok A (hp.mem_iff.2 hA), fun A hA => h.lo A (hp.mem_iff.2 hA), ((hp.flatMap_right _).nodup_iff).1 h.sep⟩
theorem St.get2 (h : St w0 w (A :: B :: μ)) : St w0 w (B :: A :: μ) := h.perm (List.Perm.swap _ _ _)
theorem St.get3 (h : St w0 w (A :: B :: C :: μ)) : St w0 w (C :: A :: B :: μ) := h.perm (((List.Perm.swap _ _ _).cons _).trans (List.Perm.swap _ _ _))
theorem St.get4 (h : St w0 w (A :: B :: C :: D :: μ)) : St w0 w (D :: A :: B :: C :: μ) := h.perm (((((List.Perm.swap _ _ _).cons _).cons _).trans ((List.Perm.swap _ _ _).cons _)).trans (List.Perm.swap _ _ _))
theorem St.drop (h : St w0 w (A :: μ)) : St w0 w μ :=
  ⟨h.bel, fun B hB => h.ok B (.tail _ hB), fun B hB => h.lo B (.tail _ hB), by have := h.sep; simp only [List.flatMap_cons] at this; exact (List.nodup_append.1 this).2.1⟩
/-- One assertion gives way to another one: the world turns only where the first one looks, and behind the end. -/
theorem St.upd (h : St w0 w (A :: μ)) (hos : w'.os = w.os) (htape : w'.tape = w.tape) (hout : w'.output = w.output) (hsz : w.heap.size ≤ w'.heap.size)
    (hblk : ∀ b, b < w.heap.size → b ∉ A.fp → w'.heap[b]? = w.heap[b]?) (hok : A'.ok w') (hfp : ∀ b ∈ A'.fp, b ∈ A.fp ∨ (w.heap.size ≤ b ∧ b < w'.heap.size)) (hnd : A'.fp.Nodup) : St w0 w' (A' :: μ) := by
  have hsep := h.sep
  simp only [List.flatMap_cons, List.nodup_append] at hsep
  obtain ⟨hs1, hs2, hs3⟩ := hsep
  have hlo := h.lo A (.head _)
  refine ⟨⟨hos.trans h.bel.os, htape.trans h.bel.tape, hout.trans h.bel.output, Nat.le_trans h.bel.size hsz, fun k hk => ?_⟩, fun B hB => ?_, fun B hB b hb => ?_, ?_⟩
  · rw [hblk k (Nat.lt_of_lt_of_le hk h.bel.size) (fun hm => by have := (hlo k hm).1; omega), h.bel.block k hk]
  · rcases List.mem_cons.1 hB with rfl | hB
    · exact hok
    · refine B.loc w w' (fun b hb => ?_) (h.ok B (.tail _ hB))
      refine hblk b (h.lo B (.tail _ hB) b hb).2 (fun hm => ?_)
      exact hs3 b hm b (List.mem_flatMap.2 ⟨B, hB, hb⟩) rfl
  · rcases List.mem_cons.1 hB with rfl | hB
    · rcases hfp b hb with h1 | h1
      · exact ⟨(hlo b h1).1, Nat.lt_of_lt_of_le (hlo b h1).2 hsz⟩
      · exact ⟨Nat.le_trans h.bel.size h1.1, h1.2⟩
    · exact ⟨(h.lo B (.tail _ hB) b hb).1, Nat.lt_of_lt_of_le (h.lo B (.tail _ hB) b hb).2 hsz⟩
  · simp only [List.flatMap_cons, List.nodup_append]
    refine ⟨hnd, hs2, fun b hb c hc e => ?_⟩
    subst e
    rcases hfp b hb with h1 | h1
    · exact hs3 b h1 b hc rfl
    · obtain ⟨B, hB, hb2⟩ := List.mem_flatMap.1 hc
      have := (h.lo B (.tail _ hB) b hb2).2
      omega
/-- A call's own result is the caller's now. -/
theorem St.push (h : St w0 w μ) (hb : Below w.heap.size w w') (hok : A.ok w') (hfp : ∀ b ∈ A.fp, w.heap.size ≤ b ∧ b < w'.heap.size) (hnd : A.fp.Nodup) : St w0 w' (A :: μ) := by
  have h2 := h.call hb
  refine ⟨h2.bel, fun B hB => ?_, fun B hB b hb1 => ?_, ?_⟩
  · rcases List.mem_cons.1 hB with rfl | hB
    · exact hok
    · exact h2.ok B hB
  · rcases List.mem_cons.1 hB with rfl | hB
    · exact ⟨Nat.le_trans h.bel.size (hfp b hb1).1, (hfp b hb1).2⟩
    · exact h2.lo B hB b hb1
  · simp only [List.flatMap_cons, List.nodup_append]
    refine ⟨hnd, h.sep, fun b hb1 c hc e => ?_⟩
    subst e
    obtain ⟨B, hB, hb2⟩ := List.mem_flatMap.1 hc
    have := (h.lo B hB b hb2).2
    have := (hfp b hb1).1
    omega
theorem St.alloc (h : St w0 w μ) (cs : Array Value) (T : TypeId) : St w0 (w.alloc (.cells cs T)) (aCel w.heap.size T cs :: μ) :=
  h.push ((Below.refl _ _).alloc (Nat.le_refl _) _) (heap_alloc_new _ _) (fun b hb => by simp [aCel] at hb; subst hb; simp) (by simp [aCel])
end

section
variable {w0 w w' : World} {μ : List Asrt} {e : TypeId} {size : Nat} {v v' : Value} {xs ys : List Value}
theorem nodup_ob (v : Value) : v.ownBlock.toList.Nodup := by cases v.ownBlock <;> simp
theorem Own.fp {B : Nat} (h : Own w B e size v xs) : ∀ b ∈ v.ownBlock.toList, B ≤ b ∧ b < w.heap.size := fun b hb => h.lt b (by simpa using hb)
theorem Own.zero {B : Nat} (h : Own w B e size v xs) : Own w 0 e size v xs := h.base fun _ _ => Nat.zero_le _
theorem Own.addr {B : Nat} {ao : Option Addr} {n cap : Nat} (h : Own w B e size (.slice ao n cap) xs) (hp : 0 < xs.length) : ∃ g, ao = some ⟨g, 0, none⟩ := by
  rcases h.shape with ⟨_, h2⟩ | ⟨g, c, h1, _⟩
  · subst h2; simp at hp
  · simp only [Value.slice.injEq] at h1; exact ⟨g, h1.1⟩
/-- A call's own slice. -/
theorem St.pushOwn (h : St w0 w μ) (hb : Below w.heap.size w w') (ho : Own w' w.heap.size e size v xs) : St w0 w' (aOwn e size v xs :: μ) :=
  h.push hb ho.zero (fun b hb => ho.fp b hb) (nodup_ob v)
theorem St.nilOwn (h : St w0 w μ) (e : TypeId) (size : Nat) : St w0 w (aOwn e size (.slice none 0 0) [] :: μ) :=
  h.push (Below.refl _ _) (Own.nil _ _ _ _) (fun b hb => by simp [aOwn, Value.ownBlock] at hb) (by simp [aOwn, Value.ownBlock])
theorem St.own (h : St w0 w (aOwn e size v xs :: μ)) : Own w w0.heap.size e size v xs := (h.ok _ (.head _)).base fun b hb => (h.lo _ (.head _) b hb).1
/-- Behind an append. -/
theorem St.grown (h : St w0 w (aOwn e size v xs :: μ)) (hg : w.grownBy w' v.ownBlock) (ho : Own w' w0.heap.size e size v' ys) (hn : ∀ k, v'.ownBlock = some k → v.ownBlock = some k ∨ w.heap.size ≤ k) : St w0 w' (aOwn e size v' ys :: μ) := by
  refine h.upd hg.os hg.tape hg.output hg.size (fun b hb hm => ?_) ho.zero (fun b hb => ?_) (nodup_ob v')
  · exact hg.block b hb fun e => hm (by simp [aOwn, ← e])
  · have hb' : v'.ownBlock = some b := by simpa [aOwn] using hb
    rcases hn b hb' with h1 | h1
    · exact .inl (by simpa [aOwn] using h1)
    · exact .inr ⟨h1, (ho.lt b hb').2⟩
theorem St.setOwn {α : Type} {f : α → Value} (hf : ∀ a, (f a).cells = #[f a]) {g n cap : Nat} {l : List α} (h : St w0 w (aOwn e 1 (.slice (some ⟨g, 0, none⟩) n cap) (l.map f) :: μ)) (q : Nat) (a : α) :
    St w0 (w.setCell ⟨g, q, none⟩ (f a)) (aOwn e 1 (.slice (some ⟨g, 0, none⟩) n cap) ((l.set q a).map f) :: μ) := by
  refine h.upd rfl rfl rfl (by simp) (fun b hb hm => ?_) (Own.set hf (h.ok _ (.head _)) q a) (fun b hb => .inl hb) (by simp [aOwn, Value.ownBlock])
  exact heap_setCell_other _ _ _ _ (fun e => hm (by simp [aOwn, Value.ownBlock, e]))
theorem St.cellOwn {α : Type} {f : α → Value} (hf : ∀ a, (f a).cells = #[f a]) {g n cap : Nat} {l : List α} (h : St w0 w (aOwn e 1 (.slice (some ⟨g, 0, none⟩) n cap) (l.map f) :: μ)) (i : Nat) (hi : i < l.length) (d : α) :
    w.cell? ⟨g, i, none⟩ = some (f (l.getD i d)) ∧ w.frozen? ⟨g, i, none⟩ = false := by
  have := Own.cellAt hf (h.ok _ (.head _)) i hi d
  exact ⟨this.1, this.2.1⟩
end

/-- Where an append puts its row: where it was, or behind the end. -/
theorem run_append_where {P : Program} {w : World} {t ty e : TypeId} {size bytes : Nat} (E : ET P t e size bytes) {v : Value} {xs : List Value} (hown : Own w 0 e size v xs)
    (a : Addr) (m c : Nat) (news : List Value) (hl : news.length = m * size) (hnews : ∀ j u, news[j]? = some u → w.cell? (a.add j) = some u) (h1 : ∀ u ∈ news, u.oneCell' = true)
    (h63 : xs.length + m ≤ maxLen) (hbytes : (xs.length + m) * bytes ≤ 140737488355328) :
    ∃ v' w', (Builtin.append_ #[t, t] ty #[v, .slice (some a) m c]).run P w = .ok v' w' ∧ w'.ownsRow 0 e size v' (xs.length + m) (cellsOf xs ++ news) ∧ w.grownBy w' v.ownBlock ∧ (∀ k, v'.ownBlock = some k → v.ownBlock = some k ∨ w.heap.size ≤ k) ∧ (0 < m → ∃ g cap, v' = .slice (some ⟨g, 0, none⟩) (xs.length + m) cap) := by
  obtain ⟨ht, ⟨i, z, hi, hz, hsize, hby, hzs⟩, hp⟩ := E
  obtain ⟨v', w', hr, h2, h3, h4⟩ := run_append_own (P := P) w 0 t ty e i z size bytes ht hi hz hsize hby hzs hp v xs.length (cellsOf xs) hown a m c news hl hnews h1 h63 hbytes (Nat.zero_le _)
  refine ⟨v', w', hr, h2, h3, ?_, ?_⟩
  · unfold maxLen at h63
    subst hsize hby
    rcases hown.2 with ⟨rfl, hn⟩ | ⟨g, cap, cur, rfl, hbg, hg, hnc, hcm, hcs, htake⟩
    · by_cases hm : m = 0
      · subst hm
        have := h4.2 ⟨rfl, rfl⟩
        subst this
        intro k hk; cases hk
      · have hr2 := run_append_nil (P := P) w t ty e i z ht hi hz a m c news hl hnews (by omega) (by omega) (by rw [hn] at hbytes; simp only [Nat.zero_add] at hbytes; omega)
        rw [hr2] at hr
        cases hr
        intro k hk
        cases hk
        exact .inr (Nat.le_refl _)
    · by_cases hroom : xs.length + m ≤ cap
      · have hfit : xs.length * i.size + news.length ≤ cur.size := by rw [hl, hcs, ← Nat.add_mul]; exact Nat.mul_le_mul_right _ hroom
        have hr2 := run_append_room (P := P) w t ty e i ht hi g xs.length cap cur hg a m c news hl hnews h1 hroom hfit
        rw [hr2] at hr
        cases hr
        intro k hk
        exact .inl hk
      · have holds : ∀ j u, (cellsOf xs)[j]? = some u → w.cell? ((⟨g, 0, none⟩ : Addr).add j) = some u := World.ownsRow.cells (g := g) hown rfl
        have hr2 := run_append_grow (P := P) w t ty e i z ht hi hz ⟨g, 0, none⟩ xs.length cap (cellsOf xs) hown.1 holds a m c news hl hnews (by omega) (by omega) (growslice_fits (by omega) hbytes)
        rw [hr2] at hr
        cases hr
        intro k hk
        cases hk
        exact .inr (Nat.le_refl _)
  · intro hm
    rcases h2.2 with ⟨h5, h6⟩ | ⟨g, cap, cur, h5, _⟩
    · omega
    · exact ⟨g, cap, h5⟩

theorem cellsOf_len {size : Nat} {us : List Value} (h : ∀ u ∈ us, u.cells.size = size) : (cellsOf us).length = us.length * size := by
  induction us with
  | nil => simp [cellsOf]
  | cons u us ih =>
    have h1 := h u (.head _)
    have h2 := ih fun x hx => h x (.tail _ hx)
    simp only [cellsOf, List.flatMap_cons, List.length_append, Array.length_toList, List.length_cons] at h2 ⊢
    rw [h1, h2, Nat.add_mul]; omega

theorem cellsOf_get {size : Nat} {us : List Value} (h : ∀ u ∈ us, u.cells.size = size) (i : Nat) (hi : i < us.length) (j : Nat) (hj : j < size) : (cellsOf us)[i * size + j]? = (us[i].cells.toList)[j]? := by
  induction us generalizing i with
  | nil => simp at hi
  | cons u us ih =>
    have h1 := h u (.head _)
    simp only [cellsOf, List.flatMap_cons]
    cases i with
    | zero =>
      rw [Nat.zero_mul, Nat.zero_add, List.getElem?_append_left (by rw [Array.length_toList]; omega)]
      rfl
    | succ i =>
      rw [List.getElem?_append_right (by rw [Array.length_toList, h1, Nat.add_mul]; omega), Array.length_toList, h1, show (i + 1) * size + j - size = i * size + j by rw [Nat.add_mul]; omega]
      exact ih (fun x hx => h x (.tail _ hx)) i (by simpa using hi)

/-- append(s, us...): at least one element; at the operation. -/
theorem St.wpApp {P : Program} {w0 w : World} {μ : List Asrt} {t e : TypeId} {size bytes : Nat} (E : ET P t e size bytes) {o : Oper} {a : Act} {K : Act → World → Prop} {Q : Exit → Act → World → Prop}
    (s x : Operand) (ho : o.op = .call { callee := .builtin .append, args := #[s, x], argTypes := #[t, t] }) {v : Value} {xs : List Value} (hs : a.eval s = v)
    (h : St w0 w (aOwn e size v xs :: μ)) (us : List Value) (ad : Addr) (m c : Nat) (hx : a.eval x = .slice (some ad) m c) (hm : m = us.length)
    (hu : ∀ j q, (cellsOf us)[j]? = some q → w.cell? (ad.add j) = some q) (hsz : ∀ u ∈ us, u.cells.size = size) (h1 : ∀ q ∈ cellsOf us, q.oneCell' = true) (hpos : 0 < m)
    (hlen : xs.length + m ≤ maxLen) (hroom : (xs.length + m) * bytes ≤ 140737488355328)
    (hK : ∀ g' n' cap w', St w0 w' (aOwn e size (.slice (some ⟨g', 0, none⟩) n' cap) (xs ++ us) :: μ) → K (a.put o.dst (.slice (some ⟨g', 0, none⟩) n' cap)) w') : o.wp P a w K Q := by
  subst hm
  obtain ⟨v', w', hr, h2, h3, h4, h5⟩ := run_append_where (ty := o.type) E (v := v) (xs := xs) (h.ok _ (.head _)) ad us.length c (cellsOf us) (cellsOf_len hsz) hu h1 hlen hroom
  obtain ⟨g, cap, rfl⟩ := h5 hpos
  unfold Oper.wp execOp
  simp only [ho, resolve, invoke, builtin, Sem.run_bind, Sem.run_pure, Result.andThen_ok, List.map_toArray, List.map_cons, List.map_nil, hs, hx, hr]
  refine hK g _ cap w' ?_
  have ho2 : Own w' 0 e size (.slice (some ⟨g, 0, none⟩) (xs.length + us.length) cap) (xs ++ us) := by
    unfold Own
    rw [cellsOf_append, List.length_append]
    exact h2
  refine h.upd h3.os h3.tape h3.output h3.size (fun b hb hm => ?_) ho2 (fun b hb => ?_) (by simp [aOwn, Value.ownBlock])
  · exact h3.block b hb fun e => hm (by simp [aOwn, ← e])
  · have hb' : (Value.slice (some ⟨g, 0, none⟩) (xs.length + us.length) cap).ownBlock = some b := by simpa [aOwn] using hb
    rcases h4 b hb' with h6 | h6
    · exact .inl (by simpa [aOwn] using h6)
    · exact .inr ⟨h6, (ho2.lt b hb').2⟩

/-- append(s, us...): at least one element. -/
theorem St.app {P : Program} {w0 w : World} {μ : List Asrt} {t e : TypeId} {size bytes : Nat} (E : ET P t e size bytes) {ops : Array Oper} {rest : List Oper} {o : Oper} {a : Act} {Q : Exit → Act → World → Prop}
    (hgd : o.guard = none) (s x : Operand) (ho : o.op = .call { callee := .builtin .append, args := #[s, x], argTypes := #[t, t] }) {v : Value} {xs : List Value} (hs : a.eval s = v)
    (h : St w0 w (aOwn e size v xs :: μ)) (us : List Value) (ad : Addr) (m c : Nat) (hx : a.eval x = .slice (some ad) m c) (hm : m = us.length)
    (hu : ∀ j q, (cellsOf us)[j]? = some q → w.cell? (ad.add j) = some q) (hsz : ∀ u ∈ us, u.cells.size = size) (h1 : ∀ q ∈ cellsOf us, q.oneCell' = true) (hpos : 0 < m)
    (hlen : xs.length + m ≤ maxLen) (hroom : (xs.length + m) * bytes ≤ 140737488355328)
    (hK : ∀ g' n' cap w', St w0 w' (aOwn e size (.slice (some ⟨g', 0, none⟩) n' cap) (xs ++ us) :: μ) → wpList P ops Q rest (a.put o.dst (.slice (some ⟨g', 0, none⟩) n' cap)) w') : wpList P ops Q (o :: rest) a w :=
  wpList_plain hgd fun K hK' => St.wpApp E s x ho hs h us ad m c hx hm hu hsz h1 hpos hlen hroom fun g' n' cap w' h2 => hK' _ _ (hK g' n' cap w' h2)

/-- append(s, u). -/
theorem St.app1 {P : Program} {w0 w : World} {μ : List Asrt} {t e : TypeId} {size bytes : Nat} (E : ET P t e size bytes) {ops : Array Oper} {rest : List Oper} {o : Oper} {a : Act} {Q : Exit → Act → World → Prop}
    (hgd : o.guard = none) (s x : Operand) (ho : o.op = .call { callee := .builtin .append, args := #[s, x], argTypes := #[t, t] }) {v : Value} {xs : List Value} (hs : a.eval s = v)
    (h : St w0 w (aOwn e size v xs :: μ)) (u : Value) (g c : Nat) (hx : a.eval x = .slice (some ⟨g, 0, none⟩) 1 c)
    (hu : ∀ j q, u.cells.toList[j]? = some q → w.cell? ⟨g, j, none⟩ = some q) (hsz : u.cells.size = size) (h1 : ∀ q ∈ u.cells.toList, q.oneCell' = true)
    (hlen : xs.length + 1 ≤ maxLen) (hroom : (xs.length + 1) * bytes ≤ 140737488355328)
    (hK : ∀ g' n' cap w', St w0 w' (aOwn e size (.slice (some ⟨g', 0, none⟩) n' cap) (xs ++ [u]) :: μ) → wpList P ops Q rest (a.put o.dst (.slice (some ⟨g', 0, none⟩) n' cap)) w') : wpList P ops Q (o :: rest) a w := by
  refine St.app E hgd s x ho hs h [u] ⟨g, 0, none⟩ 1 c hx rfl ?_ (by simpa using hsz) (by rw [oneCells]; exact h1) (by omega) hlen hroom hK
  intro j q hq
  have hadd : (⟨g, 0, none⟩ : Addr).add j = ⟨g, j, none⟩ := by unfold Addr.add; split <;> simp_all
  rw [hadd]
  rw [oneCells] at hq
  exact hu j q hq

/-- append(s, u), u laid into a new block just before. -/
theorem St.app1n {P : Program} {w0 W : World} {μ : List Asrt} {t e : TypeId} {size bytes : Nat} (E : ET P t e size bytes) {ops : Array Oper} {rest : List Oper} {o : Oper} {a : Act} {Q : Exit → Act → World → Prop} {cs : Array Value} {T : TypeId}
    (hgd : o.guard = none) (s x : Operand) (ho : o.op = .call { callee := .builtin .append, args := #[s, x], argTypes := #[t, t] }) {v : Value} {xs : List Value} (hs : a.eval s = v)
    (h : St w0 W (aOwn e size v xs :: μ)) (u : Value) (hcs : cs = u.cells) (g c : Nat) (hx : a.eval x = .slice (some ⟨g, 0, none⟩) 1 c) (hg : g = W.heap.size)
    (hsz : u.cells.size = size) (h1 : ∀ q ∈ u.cells.toList, q.oneCell' = true) (hlen : xs.length + 1 ≤ maxLen) (hroom : (xs.length + 1) * bytes ≤ 140737488355328)
    (hK : ∀ g' n' cap w', St w0 w' (aOwn e size (.slice (some ⟨g', 0, none⟩) n' cap) (xs ++ [u]) :: μ) → wpList P ops Q rest (a.put o.dst (.slice (some ⟨g', 0, none⟩) n' cap)) w') : wpList P ops Q (o :: rest) a (W.alloc (.cells cs T)) := by
  subst hg hcs
  exact St.app1 E hgd s x ho hs (h.skip _) u _ c hx (fun j q hq => cells_lit _ _ j q hq) hsz h1 hlen hroom hK

/-- The same at a step of a region that draws its order. -/
theorem St.step1n {P : Program} {w0 W : World} {μ : List Asrt} {t e : TypeId} {size bytes : Nat} (E : ET P t e size bytes) {ops : Array Oper} {o : Oper} {a : Act} {K : Act → World → Prop} {Q : Exit → Act → World → Prop} {cs : Array Value} {T : TypeId} {EE : Prop}
    (hgd : o.guard = none) (s x : Operand) (ho : o.op = .call { callee := .builtin .append, args := #[s, x], argTypes := #[t, t] }) {v : Value} {xs : List Value} (hs : a.eval s = v)
    (h : St w0 W (aOwn e size v xs :: μ)) (u : Value) (hcs : cs = u.cells) (g c : Nat) (hx : a.eval x = .slice (some ⟨g, 0, none⟩) 1 c) (hg : g = W.heap.size)
    (hsz : u.cells.size = size) (h1 : ∀ q ∈ u.cells.toList, q.oneCell' = true) (hlen : xs.length + 1 ≤ maxLen) (hroom : (xs.length + 1) * bytes ≤ 140737488355328)
    (hK : ∀ g' n' cap w', St w0 w' (aOwn e size (.slice (some ⟨g', 0, none⟩) n' cap) (xs ++ [u]) :: μ) → K (a.put o.dst (.slice (some ⟨g', 0, none⟩) n' cap)) w') :
    if Region.wanted o (yielded ops a.tmps) = true then Oper.wp P o a (W.alloc (.cells cs T)) K Q else EE := by
  subst hg hcs
  have hw : Region.wanted o (yielded ops a.tmps) = true := by simp [Region.wanted, hgd]
  rw [if_pos hw]
  refine St.wpApp E s x ho hs (h.skip _) [u] ⟨W.heap.size, 0, none⟩ 1 c hx rfl (fun j q hq => ?_) (by simpa using hsz) (by rw [oneCells]; exact h1) (by omega) hlen hroom hK
  have hadd : (⟨W.heap.size, 0, none⟩ : Addr).add j = ⟨W.heap.size, j, none⟩ := by unfold Addr.add; split <;> simp_all
  rw [hadd]
  rw [oneCells] at hq
  exact cells_lit _ _ j q hq

theorem St.celAt {w0 w : World} {μ : List Asrt} {g : Nat} {T : TypeId} {cs : Array Value} (h : St w0 w (aCel g T cs :: μ)) {i : Nat} {v : Value} (hi : cs[i]? = some v) : w.cell? ⟨g, i, none⟩ = some v := by
  have := h.ok _ (.head _)
  simp only [aCel] at this
  simp [World.cell?, this, hi]
theorem St.celFree {w0 w : World} {μ : List Asrt} {g : Nat} {T : TypeId} {cs : Array Value} (h : St w0 w (aCel g T cs :: μ)) (i : Nat) : w.frozen? ⟨g, i, none⟩ = false :=
  frozen_of_row _ _ _ _ _ (h.ok _ (.head _))
theorem St.setCel {w0 w : World} {μ : List Asrt} {g : Nat} {T : TypeId} {cs : Array Value} (h : St w0 w (aCel g T cs :: μ)) (i : Nat) (v : Value) : St w0 (w.setCell ⟨g, i, none⟩ v) (aCel g T (cs.setIfInBounds i v) :: μ) := by
  refine h.upd rfl rfl rfl (by simp) (fun b hb hm => ?_) (heap_setCell_same _ _ _ _ _ _ (h.ok _ (.head _))) (fun b hb => .inl hb) (by simp [aCel])
  exact heap_setCell_other _ _ _ _ (fun e => hm (by simp [aCel, e]))
end Go.Proofs.Ytfelikfppjlcmaa

/-
  How cells read as plain data, type by type; what came in, opened. (A helper text; it claims nothing of the program.)
-/
namespace Go.Proofs.Ytfelikfppjlcmaa
set_option linter.unusedVariables false
open Go.ChangeShapes Go.WideShapes Go.ChangeAt Go.RowKit

/-- 'size' cells read as something of α, looking only into blocks of F. -/
structure Enc (α : Type) where
  size : Nat
  R : (Nat → Prop) → World → List Value → α → Prop
  len : ∀ {F w cs a}, R F w cs a → cs.length = size
  mono : ∀ {F F' : Nat → Prop} {w w' : World} {cs a}, R F w cs a → (∀ b, F b → F' b) → (∀ b, F b → w'.heap[b]? = w.heap[b]?) → R F' w' cs a

theorem cell_of_heap {w w' : World} {b o : Nat} (h : w'.heap[b]? = w.heap[b]?) : w'.cell? ⟨b, o, none⟩ = w.cell? ⟨b, o, none⟩ := World.cell?_of_block (w := w) h
theorem frozen_of_heap {w w' : World} {b o : Nat} (h : w'.heap[b]? = w.heap[b]?) : w'.frozen? ⟨b, o, none⟩ = w.frozen? ⟨b, o, none⟩ := World.frozen?_of_block (w := w) h

namespace Enc
def int (k : IntKind) : Enc Int where
  size := 1
  R := fun _ _ cs n => cs = [.int k n] ∧ (Lit.int k n).wf = true
  len := fun h => by rw [h.1]; rfl
  mono := fun h _ _ => h
def bool : Enc Bool where
  size := 1
  R := fun _ _ cs b => cs = [.bool b]
  len := fun h => by rw [h]; rfl
  mono := fun h _ _ => h
def str : Enc ByteArray where
  size := 1
  R := fun _ _ cs s => cs = [.string s] ∧ s.size ≤ 140737488355328
  len := fun h => by rw [h.1]; rfl
  mono := fun h _ _ => h
/-- An array of n numbers. -/
def row (k : IntKind) (n : Nat) : Enc (List Int) where
  size := n
  R := fun _ _ cs l => cs = l.map (Value.int k) ∧ l.length = n ∧ ∀ x ∈ l, (Lit.int k x).wf = true
  len := fun h => by rw [h.1, List.length_map, h.2.1]
  mono := fun h _ _ => h
def prod {α β : Type} (E : Enc α) (E' : Enc β) : Enc (α × β) where
  size := E.size + E'.size
  R := fun F w cs x => ∃ c1 c2, cs = c1 ++ c2 ∧ E.R F w c1 x.1 ∧ E'.R F w c2 x.2
  len := by rintro F w cs a ⟨c1, c2, rfl, h1, h2⟩; rw [List.length_append, E.len h1, E'.len h2]
  mono := by
    rintro F F' w w' cs a ⟨c1, c2, rfl, h1, h2⟩ hF hb
    exact ⟨c1, c2, rfl, E.mono h1 hF hb, E'.mono h2 hF hb⟩
/-- A slice, its elements 'bytes' bytes each. -/
def sl {α : Type} (E : Enc α) (bytes : Nat) : Enc (List α) where
  size := 1
  R := fun F w cs l => ∃ (ao : Option Addr) (b off cap : Nat), cs = [.slice ao l.length cap] ∧ l.length ≤ cap ∧ cap ≤ maxLen ∧ (l.length : Int) * bytes ≤ 140737488355328 ∧ (ao = none → cap = 0) ∧
    (0 < l.length → ao = some ⟨b, off, none⟩ ∧ b < w.heap.size ∧ F b) ∧
    ∀ i (h : i < l.length), ∃ cs, cs.length = E.size ∧ (∀ j, j < E.size → w.cell? ⟨b, off + i * E.size + j, none⟩ = cs[j]?) ∧ E.R F w cs l[i]
  len := by rintro F w cs a ⟨_, _, _, _, rfl, _⟩; rfl
  mono := by
    rintro F F' w w' cs l ⟨ao, b, off, cap, rfl, h1, h2, h3, h4, h5, h6⟩ hF hb
    refine ⟨ao, b, off, cap, rfl, h1, h2, h3, h4, fun hl => ?_, fun i hi => ?_⟩
    · obtain ⟨g1, g2, g3⟩ := h5 hl
      refine ⟨g1, ?_, hF _ g3⟩
      have := hb b g3
      rw [Array.getElem?_eq_getElem g2] at this
      exact (Array.getElem?_eq_some_iff.1 this).1
    · obtain ⟨c, g1, g2, g3⟩ := h6 i hi
      refine ⟨c, g1, fun j hj => ?_, E.mono g3 hF hb⟩
      rw [cell_of_heap (hb b (h5 (by omega)).2.2)]
      exact g2 j hj
end Enc

/-- The value v reads as a. -/
def Rd {α : Type} (E : Enc α) (F : Nat → Prop) (w : World) (v : Value) (a : α) : Prop := E.R F w v.cells.toList a
theorem Rd.mono {α : Type} {E : Enc α} {F F' : Nat → Prop} {w w' : World} {v : Value} {a : α} (h : Rd E F w v a) (hF : ∀ b, F b → F' b) (hb : ∀ b, F b → w'.heap[b]? = w.heap[b]?) : Rd E F' w' v a := E.mono h hF hb
theorem Rd.below {α : Type} {E : Enc α} {F : Nat → Prop} {w w' : World} {v : Value} {a : α} {B : Nat} (h : Rd E F w v a) (hb : Below B w w') (hF : ∀ b, F b → b < B) : Rd E F w' v a :=
  E.mono h (fun _ h => h) fun b h => hb.block b (hF b h)

/-! What comes in. -/
section
variable {H : Type}
def Light (P : Program) (t : TypeId) (d : DataW H) : Prop := ∀ n ∈ d.weights P t, n ≤ reachBytes
end
/-- Whatever is read at type t reads as E says. -/
structure Opens (P : Program) (t : TypeId) {α : Type} (E : Enc α) : Prop where
  h : ∀ {H : Type} {enc : TypeId × Value → H} {w : World} {base : Nat} {spare : Nat → Bool} {held : Bool} {fuel : Nat} {cs : List Value} {x : DataW H × List MemPlace},
    DataW.trod enc P w base spare held fuel t cs = some x → Light P t x.1 → ∃ a, E.R (fun b => b < w.heap.size) w cs a

theorem Opens.int {P : Program} {t : TypeId} {k : IntKind} (ht : P.underlying t = some (.int k)) : Opens P t (Enc.int k) := by
  constructor
  intro H enc w base spare held fuel cs x h _
  obtain ⟨m, h1, _, h2⟩ := DataW.trod_int ht h
  exact ⟨m, h1, h2⟩
theorem Opens.bool {P : Program} {t : TypeId} (ht : P.underlying t = some .bool) : Opens P t Enc.bool := by
  constructor
  intro H enc w base spare held fuel cs x h _
  obtain ⟨m, h1, _⟩ := DataW.trod_bool ht h
  exact ⟨m, h1⟩
theorem Opens.str {P : Program} {t : TypeId} (ht : P.underlying t = some .string) : Opens P t Enc.str := by
  constructor
  intro H enc w base spare held fuel cs x h hl
  obtain ⟨m, h1, h3, h2⟩ := DataW.trod_string ht h
  refine ⟨m, h1, ?_⟩
  have := hl m.size (by rw [h3]; simp [DataW.weights])
  unfold reachBytes at this
  omega
theorem Opens.row {P : Program} {t e : TypeId} {n : Nat} {k : IntKind} (ht : P.underlying t = some (.array n e)) (he : P.underlying e = some (.int k)) (hc : P.cellsOf e = 1) (hct : P.cellsOf t = n) : Opens P t (Enc.row k n) := by
  constructor
  intro H enc w base spare held fuel cs x h _
  exact rRow ht he hc hct h
theorem Opens.sl {P : Program} {t e : TypeId} {α : Type} {E : Enc α} {bytes : Nat} (ht : P.underlying t = some (.slice e)) (hs : P.cellsOf e = E.size) (hp : 0 < E.size) (hby : P.bytesOf e = bytes) (hE : Opens P e E) : Opens P t (Enc.sl E bytes) := by
  constructor
  intro H enc w base spare held fuel cs x h hl
  rcases DataW.trod_slice ht h with ⟨h0, _⟩ | ⟨a, len, cap, elems, rest, n, _, rfl, hx, hb, hlc, hm, hlen, hel, hrl, _⟩
  · subst h0
    exact ⟨[], none, 0, 0, 0, rfl, Nat.le_refl _, by decide, by simp, fun _ => rfl, fun h => by simp at h, fun i hi => by simp at hi⟩
  · subst hby
    obtain ⟨b, off, spot⟩ := a
    have hwt : x.1.weights P t = ((elems.map (·.1)).length + (rest.map (·.1)).length) * P.bytesOf e :: (DataW.weightsAll P e (elems.map (·.1)) ++ DataW.weightsAll P e (rest.map (·.1))) := by
      rw [hx, DataW.weights, ht]
    have hw : (elems.length : Int) * (P.bytesOf e : Int) ≤ 140737488355328 := by
      have := hl (((elems.map (·.1)).length + (rest.map (·.1)).length) * P.bytesOf e) (by rw [hwt]; exact .head _)
      unfold reachBytes at this
      rw [List.length_map, Nat.add_mul] at this
      have h3 := Nat.le_trans (Nat.le_add_right _ _) this
      clear this
      rw [← Int.natCast_mul]
      omega
    have light : ∀ i (hi : i < elems.length), Light P e (elems[i]).1 := by
      intro i hi m hm2
      refine hl m ?_
      rw [hwt]
      refine .tail _ (List.mem_append.2 (.inl ?_))
      have hmem : (elems[i]).1 ∈ elems.map (·.1) := List.mem_map.2 ⟨_, List.getElem_mem hi, rfl⟩
      clear hw hl hel hlen hx hwt
      generalize elems.map (·.1) = L at hmem
      induction L with
      | nil => cases hmem
      | cons d r ih =>
        rw [DataW.weightsAll, List.mem_append]
        rcases List.mem_cons.1 hmem with h | h
        · rw [← h]; exact .inl hm2
        · exact .inr (ih h)
    have each : ∀ i, i < len → ∃ q : α × List Value, (∃ cs', w.cells? base ((⟨b, off, spot⟩ : Addr).add (i * P.cellsOf e)) (P.cellsOf e) = some cs' ∧ q.2 = cs' ∧ E.R (fun b => b < w.heap.size) w cs' q.1) := by
      intro i hi
      have h1 := hel i hi
      rw [List.getElem?_eq_getElem (by omega)] at h1
      obtain ⟨cs', h2, h3⟩ := Option.bind_eq_some_iff.1 h1
      obtain ⟨hbb, hl2, _⟩ := World.cells?_some h2
      obtain ⟨a, ha⟩ := hE.h h3 (light i (by omega))
      exact ⟨(a, cs'), cs', h2, rfl, ha⟩
    obtain ⟨l, hl1, hl2⟩ := list_of_each each
    have spot0 : 0 < len → spot = none ∧ b < w.heap.size := by
      intro hpos
      obtain ⟨cs0, g2, _, _⟩ := hl2 0 (by omega)
      obtain ⟨_, g3, gc⟩ := World.cells?_some g2
      have h0 := gc 0 (by omega)
      rw [List.getElem?_eq_getElem (by omega)] at h0
      have hz : ((⟨b, off, spot⟩ : Addr).add (0 * P.cellsOf e)).add 0 = ⟨b, off, spot⟩ := by simp [Addr.add]
      rw [hz] at h0
      exact ⟨World.cell?_spot h0, World.block_lt_of_cell? w _ h0⟩
    refine ⟨l.map (·.1), some ⟨b, off, spot⟩, b, off, cap, by simp [hl1], by simp [hl1]; omega, hm, ?_, (fun h => by cases h), fun hpos => ?_, fun i hi => ?_⟩
    · rw [List.length_map, hl1, ← hlen]
      exact hw
    · have hi0 : 0 < l.length := by simpa using hpos
      obtain ⟨h1, h2⟩ := spot0 (by omega)
      subst h1
      exact ⟨rfl, h2, h2⟩
    · have hi0 : i < l.length := by simpa using hi
      obtain ⟨cs', h2, h5, h6⟩ := hl2 i hi0
      obtain ⟨_, hl3, hc⟩ := World.cells?_some h2
      obtain ⟨h7, _⟩ := spot0 (by omega)
      subst h7
      refine ⟨cs', by rw [hl3, hs], fun j hj => ?_, by simpa [h5] using h6⟩
      rw [← hs] at hj
      rw [← hc j hj]
      congr 1
      rw [hs]
      unfold Addr.add
      by_cases e1 : i * E.size = 0 <;> by_cases e2 : j = 0 <;> simp [e1, e2]

/-- From field i on (offset o): the rest of a struct. -/
structure OpensFrom (P : Program) (fs : Array Field) (i o : Nat) {α : Type} (E : Enc α) : Prop where
  h : ∀ {H : Type} {enc : TypeId × Value → H} {w : World} {base : Nat} {spare : Nat → Bool} {held : Bool} {m : Nat} {cs : List Value},
    cs.length = o + E.size → (∀ k f, i ≤ k → fs[k]? = some f → ∃ y, DataW.trod enc P w base spare held m f.type ((cs.drop f.offset).take (P.cellsOf f.type)) = some y ∧ Light P f.type y.1) → ∃ a, E.R (fun b => b < w.heap.size) w (cs.drop o) a

theorem OpensFrom.last {P : Program} {fs : Array Field} {i o : Nat} {α : Type} {E : Enc α} {f : Field} (hf : fs[i]? = some f) (ho : f.offset = o) (hc : P.cellsOf f.type = E.size) (hO : Opens P f.type E) : OpensFrom P fs i o E := by
  constructor
  intro H enc w base spare held m cs hl h
  obtain ⟨y, hy, hlt⟩ := h i f (Nat.le_refl _) hf
  rw [ho, List.take_of_length_le (by rw [List.length_drop]; omega)] at hy
  exact hO.h hy hlt
theorem OpensFrom.cons {P : Program} {fs : Array Field} {i o : Nat} {α β : Type} {E : Enc α} {E' : Enc β} {f : Field} (hf : fs[i]? = some f) (ho : f.offset = o) (hc : P.cellsOf f.type = E.size) (hO : Opens P f.type E) (hT : OpensFrom P fs (i + 1) (o + E.size) E') : OpensFrom P fs i o (E.prod E') := by
  constructor
  intro H enc w base spare held m cs hl h
  obtain ⟨y, hy, hlt⟩ := h i f (Nat.le_refl _) hf
  rw [ho, hc] at hy
  obtain ⟨a, ha⟩ := hO.h hy hlt
  obtain ⟨b, hb⟩ := hT.h (by rw [hl]; simp only [Enc.prod]; omega) fun k f hk hf => h k f (by omega) hf
  refine ⟨(a, b), _, _, ?_, ha, hb⟩
  rw [← List.drop_drop, List.take_append_drop]
theorem Opens.struct {P : Program} {t : TypeId} {fs : Array Field} {α : Type} {E : Enc α} (ht : P.underlying t = some (.struct fs)) (hc : P.cellsOf t = E.size) (h : OpensFrom P fs 0 0 E) : Opens P t E := by
  constructor
  intro H enc w base spare held fuel cs x hx hl
  obtain ⟨xs, n, _, hx1, hlen, hfs, hel⟩ := DataW.trod_struct ht hx
  have := h.h (m := n) (cs := cs) (by rw [hlen, hc, Nat.zero_add]) fun k f _ hf => by
    have hk : k < fs.size := (Array.getElem?_eq_some_iff.1 hf).1
    have h1 := hel k f hf
    rw [List.getElem?_eq_getElem (by omega)] at h1
    refine ⟨_, h1, fun m hm => hl m ?_⟩
    have e : x.1.weights P t = DataW.weightsEach P (fs.toList.map (·.type)) (xs.map (·.1)) := by rw [hx1, DataW.weights, ht]
    rw [e]
    exact DataW.weights_mem_each (j := k) (t := f.type) (by simp [hf]) (by rw [List.getElem?_map, List.getElem?_eq_getElem (by omega)]; rfl) m hm
  exact this

/-- An argument. -/
theorem open_arg {P : Program} {t : TypeId} {α : Type} {E : Enc α} (hO : Opens P t E) {H : Type} {enc : TypeId × Value → H} {w : World} {base : Nat} {spare : Nat → Bool} {held : Bool} {v : Value} {d : DataW H} {p : List MemPlace} (h : DataW.Trod enc P w base spare held t v d p) (hl : Light P t d) : ∃ a, Rd E (fun b => b < w.heap.size) w v a := by
  obtain ⟨fuel, hf⟩ := h
  exact hO.h hf hl
theorem light_of {H : Type} {P : Program} {ts : List TypeId} {ds : List (DataW H)} (h : (DataW.weightsEach P ts ds).all (· ≤ reachBytes) = true) {j : Nat} {t : TypeId} {d : DataW H} (ht : ts[j]? = some t) (hd : ds[j]? = some d) : Light P t d := fun n hn => by
  have := List.all_eq_true.1 h n (DataW.weights_mem_each ht hd n hn)
  simpa using this
theorem wf64 {n : Int} (h : (Lit.int .i64 n).wf = true) : -9223372036854775808 ≤ n ∧ n ≤ 9223372036854775807 := by
  simpa [Lit.wf, IntKind.min, IntKind.max, IntKind.signed, IntKind.bits] using h
end Go.Proofs.Ytfelikfppjlcmaa

/-
  Steps of a walk over what the call owns and what came in: make, append, reading back. (A helper text; it claims nothing of the program.)
-/
namespace Go.Proofs.Ytfelikfppjlcmaa
set_option linter.unusedVariables false
open Go.ChangeShapes Go.WideShapes Go.ChangeAt Go.RowKit

theorem cells_one_list {z : Value} (hz : z.cells = #[z]) (n : Nat) : cellsOf (List.replicate n z) = List.replicate n z := by
  induction n with
  | zero => rfl
  | succ n ih => rw [List.replicate_succ]; simp only [cellsOf, List.flatMap_cons, hz] at ih ⊢; rw [ih]; rfl

theorem own_mk (w : World) (e : TypeId) (z : Value) (hz : z.cells = #[z]) (n : Nat) (hn : n ≤ maxLen) : Own (w.alloc (.cells (madeCells #[z] n) e)) 0 e 1 (.slice (some ⟨w.heap.size, 0, none⟩) n n) (List.replicate n z) := by
  unfold Own
  rw [cells_one_list hz, List.length_replicate]
  refine ⟨by simp, .inr ⟨w.heap.size, n, madeCells #[z] n, rfl, Nat.zero_le _, heap_alloc_new _ _, Nat.le_refl _, hn, ?_, ?_⟩⟩
  · simp [madeCells]
  · simp only [madeCells, Array.toList_map, Array.toList_range, Nat.mul_one]
    rw [List.take_of_length_le (by simp)]
    apply List.ext_getElem (by simp)
    intro i h1 h2
    simp [Nat.mod_one]

/-- make([]T, n), an element being one cell. -/
theorem St.make {P : Program} {w0 w : World} {μ : List Asrt} {ops : Array Oper} {rest : List Oper} {o : Oper} {a : Act} {Q : Exit → Act → World → Prop} {t e : TypeId} {bytes : Nat} {z : Value} (hgd : o.guard = none) (l : Operand) (hop : o.op = Op.makeSlice t l l)
    (ht : P.underlying t = some (.slice e)) (hi : (P.info? e).map (fun i => (i.zero, i.size, i.bytes)) = some (some z, 1, bytes)) (hz : z.cells = #[z]) (h : St w0 w μ) (n : Nat) (hl : a.eval l = .int .i64 (n : Int)) (hn : (bytes : Int) * n ≤ 140737488355328) (hb : 0 < bytes)
    (hK : ∀ g w', St w0 w' (aOwn e 1 (.slice (some ⟨g, 0, none⟩) n n) (List.replicate n z) :: μ) → wpList P ops Q rest (a.put o.dst (.slice (some ⟨g, 0, none⟩) n n)) w') : wpList P ops Q (o :: rest) a w := by
  obtain ⟨i, h1, h2, h3, h4⟩ := info_parts hi
  have hle : n ≤ bytes * n := Nat.le_mul_of_pos_left n hb
  have hn' : bytes * n ≤ 140737488355328 := by rw [← Int.natCast_mul] at hn; omega
  refine wpList_make_row w hgd l l t hop e i z ht h1 h2 h3 hz .i64 .i64 n hl hl (by rw [h4]; omega) (by omega) (hK w.heap.size _ ?_)
  refine h.push ((Below.refl _ _).alloc (Nat.le_refl _) _) (own_mk w e z hz n (by unfold maxLen; omega)) (fun b hb => ?_) (by simp [aOwn, Value.ownBlock])
  simp [aOwn, Value.ownBlock] at hb
  subst hb
  simp

/-- append(s, l...) of a slice that reads as a list. -/
theorem St.appSl {P : Program} {w0 w : World} {μ : List Asrt} {t e : TypeId} {size bytes b2 : Nat} (E : ET P t e size bytes) {ops : Array Oper} {rest : List Oper} {o : Oper} {a : Act} {Q : Exit → Act → World → Prop}
    (hgd : o.guard = none) (s x : Operand) (ho : o.op = .call { callee := .builtin .append, args := #[s, x], argTypes := #[t, t] }) {v : Value} {xs : List Value} (hs : a.eval s = v)
    (h : St w0 w (aOwn e size v xs :: μ)) {α : Type} {En : Enc α} (hes : En.size = size) {F : Nat → Prop} {u : Value} {l : List α} (hl : (En.sl b2).R F w [u] l) (hx : a.eval x = u) (f : α → Value) (hf : ∀ w cs a, En.R F w cs a → cs = (f a).cells.toList) (h1 : ∀ a, ∀ q ∈ (f a).cells.toList, q.oneCell' = true)
    (hroom : ((xs.length + l.length : Nat) : Int) * bytes ≤ 140737488355328) (hlen : ((xs.length + l.length : Nat) : Int) ≤ 140737488355328)
    (hK : ∀ v' w', St w0 w' (aOwn e size v' (xs ++ l.map f) :: μ) → wpList P ops Q rest (a.put o.dst v') w') : wpList P ops Q (o :: rest) a w := by
  obtain ⟨ao, b, off, cap, hu, c1, c2, c3, c4, c5, c6⟩ := hl
  simp only [List.cons.injEq, and_true] at hu
  subst hu
  cases ao with
  | none =>
    have hl0 : l.length = 0 := by
      rcases Nat.eq_zero_or_pos l.length with h | h
      · exact h
      · have := (c5 h).1; cases this
    have hl1 := List.eq_nil_of_length_eq_zero hl0
    subst hl1
    have hc := c4 rfl
    subst hc
    obtain ⟨ht, ⟨i, z, hi, hz, hsize, hby, hzs⟩, hp⟩ := E
    refine wpList_append_own_none hgd s x t ho 0 e i size ht hi v xs.length (cellsOf xs) hs (h.ok _ (.head _)) hx (hK v w ?_)
    simpa using h
  | some ad =>
    have hcells : ∀ i (hi : i < l.length), (∀ j, j < size → w.cell? ⟨b, off + i * size + j, none⟩ = ((f l[i]).cells.toList)[j]?) ∧ (f l[i]).cells.toList.length = size := by
      intro i hi
      obtain ⟨cs, g1, g2, g3⟩ := c6 i hi
      have := hf _ _ _ g3
      subst this
      rw [hes] at g1 g2
      exact ⟨g2, g1⟩
    have hsz : ∀ u ∈ l.map f, u.cells.size = size := by
      intro u hu
      obtain ⟨y, hy, rfl⟩ := List.mem_map.1 hu
      obtain ⟨i, hi, rfl⟩ := List.getElem_of_mem hy
      rw [← Array.length_toList]
      exact (hcells i hi).2
    have hcl := cellsOf_len hsz
    rw [List.length_map] at hcl
    have hpos := E.pos
    have hread : ∀ j q, (cellsOf (l.map f))[j]? = some q → w.cell? (ad.add j) = some q := by
      intro j q hq
      have hj : j < l.length * size := by
        rw [← hcl]
        exact (List.getElem?_eq_some_iff.1 hq).1
      have hl0 : 0 < l.length := by
        rcases Nat.eq_zero_or_pos l.length with h | h
        · rw [h] at hj; omega
        · exact h
      obtain ⟨e1, _, _⟩ := c5 hl0
      cases e1
      have e2 : (⟨b, off, none⟩ : Addr).add j = ⟨b, off + j, none⟩ := by unfold Addr.add; split <;> simp_all
      rw [e2]
      have hi : j / size < l.length := (Nat.div_lt_iff_lt_mul hpos).2 hj
      have hm : j % size < size := Nat.mod_lt _ hpos
      have h3 := (hcells _ hi).1 _ hm
      rw [show off + j / size * size + j % size = off + j by rw [Nat.add_assoc, Nat.div_add_mod']] at h3
      rw [h3, ← hq]
      clear h3 hq
      symm
      have := cellsOf_get hsz (j / size) (by rw [List.length_map]; exact hi) (j % size) hm
      rw [Nat.div_add_mod'] at this
      rw [this]
      simp
    obtain ⟨v', w', hr, h2, h3, h4, h5⟩ := run_append_where (ty := o.type) E (v := v) (xs := xs) (h.ok _ (.head _)) ad l.length cap (cellsOf (l.map f)) hcl hread (by
        intro q hq
        obtain ⟨u, hu, hq2⟩ := List.mem_flatMap.1 hq
        obtain ⟨y, hy, rfl⟩ := List.mem_map.1 hu
        exact h1 y q hq2) (by unfold maxLen; omega) (by rw [← Int.natCast_mul] at hroom; omega)
    refine wpList_plain hgd fun K hK' => ?_
    unfold Oper.wp execOp
    simp only [ho, resolve, invoke, builtin, Sem.run_bind, Sem.run_pure, Result.andThen_ok, List.map_toArray, List.map_cons, List.map_nil, hs, hx, hr]
    refine hK' _ _ (hK v' w' ?_)
    have ho2 : Own w' 0 e size v' (xs ++ l.map f) := by
      unfold Own
      rw [cellsOf_append, List.length_append, List.length_map]
      exact h2
    refine h.upd h3.os h3.tape h3.output h3.size (fun b hb hm => ?_) ho2 (fun b hb => ?_) (nodup_ob _)
    · exact h3.block b hb fun e => hm (by simp [aOwn, ← e])
    · have hb' : v'.ownBlock = some b := by simpa [aOwn] using hb
      rcases h4 b hb' with h6 | h6
      · exact .inl (by simpa [aOwn] using h6)
      · exact .inr ⟨h6, (ho2.lt b hb').2⟩

/-- What the call owns reads as a list. -/
theorem Own.enc {α : Type} {En : Enc α} {w : World} {B : Nat} {e : TypeId} {size bytes : Nat} {v : Value} {l : List α} {f : α → Value} {F : Nat → Prop} (h : Own w B e size v (l.map f)) (hes : En.size = size) (hR : ∀ a ∈ l, En.R F w (f a).cells.toList a) (hF : ∀ b ∈ v.ownBlock.toList, F b)
    (hb : (l.length : Int) * bytes ≤ 140737488355328) : (En.sl bytes).R F w [v] l := by
  have hsz : ∀ u ∈ l.map f, u.cells.size = size := by
    intro u hu
    obtain ⟨y, hy, rfl⟩ := List.mem_map.1 hu
    rw [← Array.length_toList, En.len (hR y hy), hes]
  have hr := h
  unfold Own at hr
  rw [List.length_map] at hr
  rcases hr.2 with ⟨h1, h2⟩ | ⟨g, cap, cur, rfl, hB, hg, hn, hc, hcs, htk⟩
  · have : l = [] := List.eq_nil_of_length_eq_zero h2
    subst this
    exact ⟨none, 0, 0, 0, by rw [h1]; rfl, Nat.le_refl _, by decide, by simp, fun _ => rfl, fun h => by simp at h, fun i hi => by simp at hi⟩
  · refine ⟨some ⟨g, 0, none⟩, g, 0, cap, rfl, hn, hc, hb, (fun h => by cases h), fun _ => ⟨rfl, (Array.getElem?_eq_some_iff.1 hg).1, hF g (by simp [Value.ownBlock])⟩, fun i hi => ⟨_, ?_, fun j hj => ?_, hR _ (List.getElem_mem hi)⟩⟩
    · rw [En.len (hR _ (List.getElem_mem hi))]
    · rw [hes] at hj ⊢
      have h3 := cellsOf_get hsz i (by rw [List.length_map]; exact hi) j hj
      rw [List.getElem_map] at h3
      rw [← h3, Nat.zero_add, ← htk]
      have hlt : i * size + j < l.length * size := by
        have : (i + 1) * size ≤ l.length * size := Nat.mul_le_mul_right _ hi
        rw [Nat.add_mul] at this; omega
      rw [List.getElem?_take, if_pos hlt]
      simp [World.cell?, hg]
theorem Enc.toSl {α : Type} {En : Enc α} {bytes : Nat} {F : Nat → Prop} {w : World} {v : Value} {l : List α} (h : (En.sl bytes).R F w [v] l) : Sl w En.size (En.R F w) v l := by
  obtain ⟨ao, b, off, cap, hu, c1, c2, c3, c4, c5, c6⟩ := h
  simp only [List.cons.injEq, and_true] at hu
  exact ⟨ao, b, off, cap, hu, c1, c2, fun h => ⟨(c5 h).1, (c5 h).2.1⟩, c6⟩
theorem St.fpOwn {w0 w : World} {μ : List Asrt} {e : TypeId} {size : Nat} {v : Value} {xs : List Value} (h : St w0 w (aOwn e size v xs :: μ)) : ∀ b ∈ v.ownBlock.toList, w0.heap.size ≤ b ∧ b < w.heap.size := h.lo _ (.head _)

/-- A slice of one-cell elements that reads as a list: its cells. -/
theorem Enc.sl1 {α : Type} {En : Enc α} {bytes : Nat} {F : Nat → Prop} {w : World} {v : Value} {l : List α} (f : α → Value) (hf : ∀ w cs a, En.R F w cs a → cs = [f a]) (hs : En.size = 1) (d : α) (h : (En.sl bytes).R F w [v] l) :
    ∃ (ao : Option Addr) (b off cap : Nat), v = .slice ao l.length cap ∧ (l.length : Int) * bytes ≤ 140737488355328 ∧ (0 < l.length → ao = some ⟨b, off, none⟩ ∧ b < w.heap.size ∧ F b) ∧ ∀ i, i < l.length → w.cell? ⟨b, off + i, none⟩ = some (f (l.getD i d)) ∧ En.R F w [f (l.getD i d)] (l.getD i d) := by
  obtain ⟨ao, b, off, cap, hu, c1, c2, c3, c4, c5, c6⟩ := h
  simp only [List.cons.injEq, and_true] at hu
  refine ⟨ao, b, off, cap, hu, c3, c5, fun i hi => ?_⟩
  obtain ⟨cs, g1, g2, g3⟩ := c6 i hi
  have e := hf _ _ _ g3
  subst e
  have := g2 0 (by omega)
  rw [hs, Nat.mul_one, Nat.add_zero] at this
  have e2 : l.getD i d = l[i] := by simp [List.getD, List.getElem?_eq_getElem hi]
  rw [e2]
  exact ⟨by rw [this]; rfl, g3⟩
/-- A slice whose elements are n plain cells each. -/
theorem Enc.slN {α : Type} {En : Enc α} {bytes : Nat} {F : Nat → Prop} {w : World} {v : Value} {l : List α} (d : α) (h : (En.sl bytes).R F w [v] l) :
    ∃ (ao : Option Addr) (b off cap : Nat), v = .slice ao l.length cap ∧ (l.length : Int) * bytes ≤ 140737488355328 ∧ (0 < l.length → ao = some ⟨b, off, none⟩ ∧ b < w.heap.size ∧ F b) ∧ ∀ i, i < l.length → ∃ cs, cs.length = En.size ∧ (∀ j, j < En.size → w.cell? ⟨b, off + i * En.size + j, none⟩ = cs[j]?) ∧ En.R F w cs (l.getD i d) := by
  obtain ⟨ao, b, off, cap, hu, c1, c2, c3, c4, c5, c6⟩ := h
  simp only [List.cons.injEq, and_true] at hu
  refine ⟨ao, b, off, cap, hu, c3, c5, fun i hi => ?_⟩
  have e2 : l.getD i d = l[i] := by simp [List.getD, List.getElem?_eq_getElem hi]
  rw [e2]
  exact c6 i hi
end Go.Proofs.Ytfelikfppjlcmaa

/-
  What reads as plain data, in memory that the call made (the blocks fp) or that was there before it (world w0). (A helper text; it claims nothing of the program.)
-/
namespace Go.Proofs.Ytfelikfppjlcmaa
set_option linter.unusedVariables false
open Go.ChangeShapes Go.WideShapes Go.ChangeAt Go.RowKit

/-- The values vs read as l, looking into blocks of fp and into what was there in w0. -/
def aRd {α : Type} (E : Enc α) (w0 : World) (fp : List Nat) (vs : List Value) (l : α) : Asrt where
  fp := fp
  ok := fun w => ∀ w', (∀ b, b < w0.heap.size → w'.heap[b]? = w0.heap[b]?) → (∀ b ∈ fp, w'.heap[b]? = w.heap[b]?) → E.R (fun b => b < w0.heap.size ∨ b ∈ fp) w' vs l
  loc := fun w w' h hw w2 h0 h1 => hw w2 h0 fun b hb => (h1 b hb).trans (h b hb)

section
variable {α : Type} {E : Enc α} {w0 w w' : World} {μ : List Asrt} {fp : List Nat} {vs : List Value} {l : α}
theorem St.rd (h : St w0 w (aRd E w0 fp vs l :: μ)) : E.R (fun b => b < w0.heap.size ∨ b ∈ fp) w vs l := h.ok _ (.head _) w (fun b hb => h.bel.block b hb) (fun _ _ => rfl)
theorem St.rdLt (h : St w0 w (aRd E w0 fp vs l :: μ)) : E.R (fun b => b < w.heap.size) w vs l :=
  E.mono h.rd (fun b hb => hb.elim (fun h1 => Nat.lt_of_lt_of_le h1 h.bel.size) (fun h1 => (h.lo _ (.head _) b h1).2)) (fun _ _ => rfl)
/-- What was there before. -/
theorem St.pushOld {F : Nat → Prop} (h : St w0 w μ) (hr : E.R F w0 vs l) (hF : ∀ b, F b → b < w0.heap.size) : St w0 w (aRd E w0 [] vs l :: μ) :=
  h.push (Below.refl _ _) (fun w' h0 _ => E.mono hr (fun b hb => .inl (hF b hb)) (fun b hb => h0 b (hF b hb))) (fun b hb => by cases hb) (by simp [aRd])
end

/-- One assertion for another one with the same or fewer blocks. -/
theorem St.turn {w0 w : World} {A A' : Asrt} {μ : List Asrt} (h : St w0 w (A :: μ)) (hfp : A'.fp = A.fp) (hok : A'.ok w) : St w0 w (A' :: μ) := by
  refine h.upd rfl rfl rfl (Nat.le_refl _) (fun _ _ _ => rfl) hok (fun b hb => .inl (by rw [← hfp]; exact hb)) ?_
  rw [hfp]
  have := h.sep
  simp only [List.flatMap_cons] at this
  exact (List.nodup_append.1 this).1

theorem St.one' {w0 w : World} {μ : List Asrt} {A : Asrt} (h : St w0 w μ) (hA : A ∈ μ) : St w0 w [A] := by
  refine ⟨h.bel, fun X hX => ?_, fun X hX => ?_, ?_⟩
  · rw [List.mem_singleton.1 hX]; exact h.ok A hA
  · rw [List.mem_singleton.1 hX]; exact h.lo A hA
  · simp only [List.flatMap_cons, List.flatMap_nil, List.append_nil]
    obtain ⟨s, t, rfl⟩ := List.append_of_mem hA
    have h3 := h.sep
    rw [List.flatMap_append, List.flatMap_cons] at h3
    exact (List.nodup_append.1 (List.nodup_append.1 h3).2.1).1

/-- What the call owns, read. -/
theorem St.ownRd {α : Type} {En : Enc α} {w0 w : World} {μ : List Asrt} {e : TypeId} {size bytes : Nat} {v : Value} {l : List α} {f : α → Value} (h : St w0 w (aOwn e size v (l.map f) :: μ)) (hes : En.size = size) (hR : ∀ F W, ∀ a ∈ l, En.R F W (f a).cells.toList a) (hb : (l.length : Int) * bytes ≤ 140737488355328) :
    St w0 w (aRd (En.sl bytes) w0 v.ownBlock.toList [v] l :: μ) := by
  refine h.turn rfl (fun w' h0 h1 => ?_)
  have ho := (aOwn e size v (l.map f)).loc w w' h1 (h.ok _ (.head _))
  exact Own.enc (f := f) ho hes (fun a ha => hR _ _ a ha) (fun b hb => .inr hb) hb

theorem Own.isLen {w : World} {B : Nat} {e : TypeId} {size : Nat} {v : Value} {xs : List Value} (h : Own w B e size v xs) : ∃ ao cap, v = .slice ao xs.length cap := by
  rcases h.shape with ⟨h1, h2⟩ | ⟨g, cap, h1, _⟩
  · exact ⟨none, 0, by rw [h1, h2]; rfl⟩
  · exact ⟨_, _, h1⟩

theorem St.cel3 {w0 w : World} {μ : List Asrt} {g : Nat} {T : TypeId} {v0 v1 v2 : Value} (h : St w0 w (aCel g T #[v0, v1, v2] :: μ)) :
    w.cell? ⟨g, 0, none⟩ = some v0 ∧ w.cell? ⟨g, 1, none⟩ = some v1 ∧ w.cell? ⟨g, 2, none⟩ = some v2 ∧ w.frozen? ⟨g, 0, none⟩ = false ∧ w.frozen? ⟨g, 1, none⟩ = false ∧ w.frozen? ⟨g, 2, none⟩ = false :=
  ⟨h.celAt rfl, h.celAt rfl, h.celAt rfl, h.celFree 0, h.celFree 1, h.celFree 2⟩
end Go.Proofs.Ytfelikfppjlcmaa

/-
  What the call owns, by its place in the list. (A helper text; it claims nothing of the program.)
-/
namespace Go.Proofs.Ytfelikfppjlcmaa
set_option linter.unusedVariables false
open Go.ChangeShapes Go.WideShapes Go.ChangeAt Go.RowKit

section
variable {w0 w : World} {μ : List Asrt}
theorem St.cel2 {g : Nat} {T : TypeId} {v0 v1 : Value} (h : St w0 w (aCel g T #[v0, v1] :: μ)) : w.cell? ⟨g, 0, none⟩ = some v0 ∧ w.cell? ⟨g, 1, none⟩ = some v1 := ⟨h.celAt rfl, h.celAt rfl⟩
/-- The i-th assertion. -/
theorem St.nth {A : Asrt} (h : St w0 w μ) (i : Nat) (hA : μ[i]? = some A) : St w0 w [A] := h.one' (List.mem_of_getElem? hA)
theorem St.at3 {g : Nat} {T : TypeId} {v0 v1 v2 : Value} (h : St w0 w μ) (i : Nat) (hA : μ[i]? = some (aCel g T #[v0, v1, v2])) : w.cell? ⟨g, 0, none⟩ = some v0 ∧ w.cell? ⟨g, 1, none⟩ = some v1 ∧ w.cell? ⟨g, 2, none⟩ = some v2 := by
  have := (h.nth i hA).cel3
  exact ⟨this.1, this.2.1, this.2.2.1⟩
theorem St.at2 {g : Nat} {T : TypeId} {v0 v1 : Value} (h : St w0 w μ) (i : Nat) (hA : μ[i]? = some (aCel g T #[v0, v1])) : w.cell? ⟨g, 0, none⟩ = some v0 ∧ w.cell? ⟨g, 1, none⟩ = some v1 := (h.nth i hA).cel2
theorem St.heapAt {g : Nat} {T : TypeId} {cs : Array Value} (h : St w0 w μ) (i : Nat) (hA : μ[i]? = some (aCel g T cs)) : w.heap[g]? = some (.cells cs T (0, 0)) := (h.nth i hA).ok _ (.head _)
theorem St.ownAt {e : TypeId} {size : Nat} {v : Value} {xs : List Value} (h : St w0 w μ) (i : Nat) (hA : μ[i]? = some (aOwn e size v xs)) : Own w w0.heap.size e size v xs := (h.nth i hA).own
end
end Go.Proofs.Ytfelikfppjlcmaa

/-
  A slice of a slice, as lists; more on what a call owns. (A helper text; it claims nothing of the program.)
-/
namespace Go.Proofs.Ytfelikfppjlcmaa
set_option linter.unusedVariables false
open Go.ChangeShapes Go.WideShapes Go.ChangeAt Go.RowKit

theorem Enc.sliced {α : Type} {E : Enc α} {bytes : Nat} {F : Nat → Prop} {w : World} {ao : Option Addr} {cap : Nat} {l : List α} (h : (E.sl bytes).R F w [.slice ao l.length cap] l) (lo hi : Nat) (h1 : lo ≤ hi) (h2 : hi ≤ l.length) :
    (E.sl bytes).R F w [Go.sliced ao lo hi cap E.size] ((l.take hi).drop lo) := by
  obtain ⟨ao', b, off, cap', e, c1, c2, c3, c4, c5, c6⟩ := h
  simp only [List.cons.injEq, Value.slice.injEq, true_and, and_true] at e
  obtain ⟨rfl, rfl⟩ := e
  have hlen : ((l.take hi).drop lo).length = hi - lo := by simp; omega
  have hby : (((l.take hi).drop lo).length : Int) * bytes ≤ 140737488355328 := by
    rw [hlen]
    refine Int.le_trans ?_ c3
    exact Int.mul_le_mul_of_nonneg_right (by omega) (by omega)
  cases ao with
  | none =>
    have hl0 : l.length = 0 := by
      rcases Nat.eq_zero_or_pos l.length with h | h
      · exact h
      · have := (c5 h).1; cases this
    have hc := c4 rfl
    subst hc
    refine ⟨none, 0, 0, 0, ?_, by rw [hlen]; omega, by decide, hby, fun _ => rfl, fun h => by rw [hlen] at h; omega, fun i hi => by rw [hlen] at hi; omega⟩
    simp [Go.sliced, hlen]
  | some a =>
    by_cases hp : 0 < hi - lo
    · obtain ⟨e1, hb, hF⟩ := c5 (by omega)
      cases e1
      refine ⟨some ⟨b, off + lo * E.size, none⟩, b, off + lo * E.size, cap - lo, ?_, by rw [hlen]; omega, by omega, hby, (fun h => by cases h), fun _ => ⟨rfl, hb, hF⟩, fun i hi2 => ?_⟩
      · rw [hlen, Go.sliced, if_neg (by omega)]
        simp only [Option.map_some, Addr.add]
        split
        · rename_i h0; rw [h0]; rfl
        · rfl
      · rw [hlen] at hi2
        obtain ⟨cs, g1, g2, g3⟩ := c6 (lo + i) (by omega)
        refine ⟨cs, g1, fun j hj => ?_, ?_⟩
        · rw [← g2 j hj, show off + lo * E.size + i * E.size + j = off + (lo + i) * E.size + j by rw [Nat.add_mul]; omega]
        · have e2 : ((l.take hi).drop lo)[i]'(by rw [hlen]; exact hi2) = l[lo + i]'(by omega) := by simp
          rw [e2]; exact g3
    · refine ⟨if cap = lo then some a else some (a.add (lo * E.size)), 0, 0, cap - lo, ?_, by rw [hlen]; omega, by omega, hby, (fun h => by split at h <;> cases h), fun h => by rw [hlen] at h; omega, fun i hi2 => by rw [hlen] at hi2; omega⟩
      rw [hlen, Go.sliced]
      simp

section
variable {w0 w w' : World} {μ ν : List Asrt} {A B C D E : Asrt}
theorem St.get5 (h : St w0 w (A :: B :: C :: D :: E :: μ)) : St w0 w (E :: A :: B :: C :: D :: μ) :=
  h.perm ((((((List.Perm.swap _ _ _).cons _).cons _).cons _).trans ((((List.Perm.swap _ _ _).cons _).cons _).trans (((List.Perm.swap _ _ _).cons _).trans (List.Perm.swap _ _ _)))))
/-- The first two alone. -/
theorem St.two (h : St w0 w (A :: B :: μ)) : St w0 w [A, B] := by
  refine ⟨h.bel, fun X hX => h.ok X ?_, fun X hX => h.lo X ?_, ?_⟩
  · rcases List.mem_cons.1 hX with rfl | hX
    · exact .head _
    · rw [List.mem_singleton.1 hX]; exact .tail _ (.head _)
  · rcases List.mem_cons.1 hX with rfl | hX
    · exact .head _
    · rw [List.mem_singleton.1 hX]; exact .tail _ (.head _)
  · refine h.sep.sublist ?_
    simp only [List.flatMap_cons, List.flatMap_nil, List.append_nil]
    exact (List.Sublist.refl _).append (List.sublist_append_left _ _)
/-- What a call has made is the caller's. -/
theorem St.join (h : St w0 w μ) (h2 : St w w' ν) : St w0 w' (ν ++ μ) := by
  have h3 := h.call h2.bel
  refine ⟨h3.bel, fun X hX => ?_, fun X hX b hb => ?_, ?_⟩
  · rcases List.mem_append.1 hX with hX | hX
    · exact h2.ok X hX
    · exact h3.ok X hX
  · rcases List.mem_append.1 hX with hX | hX
    · exact ⟨Nat.le_trans h.bel.size (h2.lo X hX b hb).1, (h2.lo X hX b hb).2⟩
    · exact h3.lo X hX b hb
  · rw [List.flatMap_append, List.nodup_append]
    refine ⟨h2.sep, h.sep, fun b hb c hc e => ?_⟩
    subst e
    obtain ⟨X, hX, hb2⟩ := List.mem_flatMap.1 hb
    obtain ⟨Y, hY, hc2⟩ := List.mem_flatMap.1 hc
    have := (h2.lo X hX b hb2).1
    have := (h.lo Y hY b hc2).2
    omega
end
end Go.Proofs.Ytfelikfppjlcmaa

/-
  Many assertions as one; a result whose parts lie in several blocks, all made by the call. (A helper text; it claims nothing of the program.)
-/
namespace Go.Proofs.Ytfelikfppjlcmaa
set_option linter.unusedVariables false
open Go.ChangeShapes Go.WideShapes Go.ChangeAt Go.RowKit

/-- All of them. -/
def aAll (As : List Asrt) : Asrt where
  fp := As.flatMap (·.fp)
  ok := fun w => ∀ A ∈ As, A.ok w
  loc := fun w w' h hw A hA => A.loc w w' (fun b hb => h b (List.mem_flatMap.2 ⟨A, hA, hb⟩)) (hw A hA)
/-- The values vs read as l, all of it in the blocks fp. -/
def aEnc {α : Type} (E : Enc α) (fp : List Nat) (vs : List Value) (l : α) : Asrt where
  fp := fp
  ok := fun w => E.R (fun b => b ∈ fp) w vs l
  loc := fun w w' h hw => E.mono hw (fun _ h => h) h

section
variable {w0 w w' : World} {μ : List Asrt} {A : Asrt} {As : List Asrt}
theorem St.nilAll (h : St w0 w μ) : St w0 w (aAll [] :: μ) := h.push (Below.refl _ _) (fun _ h => by cases h) (fun b hb => by simp [aAll] at hb) (by simp [aAll])
theorem St.snoc (h : St w0 w (A :: aAll As :: μ)) : St w0 w (aAll (As ++ [A]) :: μ) := by
  refine ⟨h.bel, fun B hB => ?_, fun B hB b hb => ?_, ?_⟩
  · rcases List.mem_cons.1 hB with rfl | hB
    · intro C hC
      rcases List.mem_append.1 hC with h1 | h1
      · exact h.ok _ (.tail _ (.head _)) C h1
      · rw [List.mem_singleton.1 h1]; exact h.ok _ (.head _)
    · exact h.ok B (.tail _ (.tail _ hB))
  · rcases List.mem_cons.1 hB with rfl | hB
    · simp only [aAll, List.flatMap_append, List.mem_append, List.flatMap_cons, List.flatMap_nil, List.append_nil] at hb
      rcases hb with h1 | h1
      · exact h.lo _ (.tail _ (.head _)) b h1
      · exact h.lo _ (.head _) b h1
    · exact h.lo B (.tail _ (.tail _ hB)) b hb
  · have := h.sep
    simp only [aAll, List.flatMap_cons, List.flatMap_append, List.flatMap_nil, List.append_nil] at this ⊢
    refine (List.Perm.nodup_iff ?_).1 this
    rw [← List.append_assoc]
    exact (List.perm_append_comm).append_right _
theorem St.allAt (h : St w0 w (aAll As :: μ)) (B : Asrt) (hB : B ∈ As) : B.ok w := h.ok _ (.head _) B hB
/-- Two assertions as one. -/
theorem St.merge {B C : Asrt} (h : St w0 w (A :: B :: μ)) (hfp : C.fp = A.fp ++ B.fp) (hok : A.ok w → B.ok w → C.ok w) : St w0 w (C :: μ) := by
  refine ⟨h.bel, fun D hD => ?_, fun D hD b hb => ?_, ?_⟩
  · rcases List.mem_cons.1 hD with rfl | hD
    · exact hok (h.ok _ (.head _)) (h.ok _ (.tail _ (.head _)))
    · exact h.ok D (.tail _ (.tail _ hD))
  · rcases List.mem_cons.1 hD with rfl | hD
    · rw [hfp] at hb
      rcases List.mem_append.1 hb with h1 | h1
      · exact h.lo _ (.head _) b h1
      · exact h.lo _ (.tail _ (.head _)) b h1
    · exact h.lo D (.tail _ (.tail _ hD)) b hb
  · have := h.sep
    simp only [List.flatMap_cons] at this ⊢
    rw [hfp, List.append_assoc]
    exact this
theorem St.encR {α : Type} {E : Enc α} {fp : List Nat} {vs : List Value} {l : α} (h : St w0 w (aEnc E fp vs l :: μ)) : E.R (fun b => b < w.heap.size) w vs l :=
  E.mono (h.ok _ (.head _)) (fun b hb => (h.lo _ (.head _) b hb).2) (fun _ _ => rfl)
theorem St.encAt {α : Type} {E : Enc α} {fp : List Nat} {vs : List Value} {l : α} (h : St w0 w μ) (i : Nat) (hA : μ[i]? = some (aEnc E fp vs l)) : E.R (fun b => b < w.heap.size) w vs l := (h.nth i hA).encR
end

/-- Seen through g. -/
def Enc.via {α β : Type} (En : Enc α) (g : β → α) : Enc β where
  size := En.size
  R := fun F w cs q => En.R F w cs (g q)
  len := fun h => En.len h
  mono := fun h => En.mono h
theorem Enc.viaSl {α β : Type} {En : Enc α} {g : β → α} {bytes : Nat} {F : Nat → Prop} {w : World} {vs : List Value} {L : List β} (h : ((En.via g).sl bytes).R F w vs L) : (En.sl bytes).R F w vs (L.map g) := by
  obtain ⟨ao, b, off, cap, h0, h1, h2, h3, h4, h5, h6⟩ := h
  refine ⟨ao, b, off, cap, by rw [List.length_map]; exact h0, by rw [List.length_map]; exact h1, h2, by rw [List.length_map]; exact h3, h4, by rw [List.length_map]; exact h5, fun i hi => ?_⟩
  rw [List.length_map] at hi
  obtain ⟨cs, g1, g2, g3⟩ := h6 i hi
  exact ⟨cs, g1, g2, by rw [List.getElem_map]; exact g3⟩
theorem Own.encVia {α β : Type} {En : Enc α} {w : World} {B : Nat} {e : TypeId} {size bytes : Nat} {v : Value} {L : List β} {f : β → Value} {g : β → α} {F : Nat → Prop} (h : Own w B e size v (L.map f)) (hes : En.size = size) (hR : ∀ q ∈ L, En.R F w (f q).cells.toList (g q)) (hF : ∀ b ∈ v.ownBlock.toList, F b)
    (hb : (L.length : Int) * bytes ≤ 140737488355328) : (En.sl bytes).R F w [v] (L.map g) :=
  Enc.viaSl (Own.enc (En := En.via g) (f := f) h hes hR hF hb)

/-- A slice of things that have parts of their own: as one. -/
theorem St.sealed {α β : Type} {En : Enc α} {w0 w : World} {μ : List Asrt} {e : TypeId} {size bytes : Nat} {v : Value} {L : List β} {f : β → Value} {g : β → α} {A : β → Asrt} (h : St w0 w (aOwn e size v (L.map f) :: aAll (L.map A) :: μ)) (hes : En.size = size)
    (hR : ∀ q ∈ L, (A q).ok w → En.R (fun b => b ∈ (A q).fp) w (f q).cells.toList (g q)) (hb : (L.length : Int) * bytes ≤ 140737488355328) :
    ∃ fp, St w0 w (aEnc (En.sl bytes) fp [v] (L.map g) :: μ) := by
  refine ⟨v.ownBlock.toList ++ (aAll (L.map A)).fp, h.merge rfl (fun h1 h2 => ?_)⟩
  refine Own.encVia (f := f) h1 hes (fun q hq => ?_) (fun b hb => List.mem_append.2 (.inl hb)) hb
  exact En.mono (hR q hq (h2 _ (List.mem_map.2 ⟨q, hq, rfl⟩))) (fun b hb => List.mem_append.2 (.inr (List.mem_flatMap.2 ⟨_, List.mem_map.2 ⟨q, hq, rfl⟩, hb⟩))) (fun _ _ => rfl)
theorem St.ownEnc {α : Type} {En : Enc α} {w0 w : World} {μ : List Asrt} {e : TypeId} {size bytes : Nat} {v : Value} {l : List α} {f : α → Value} (h : St w0 w (aOwn e size v (l.map f) :: μ)) (hes : En.size = size) (hR : ∀ F W, ∀ a ∈ l, En.R F W (f a).cells.toList a) (hb : (l.length : Int) * bytes ≤ 140737488355328) :
    St w0 w (aEnc (En.sl bytes) v.ownBlock.toList [v] l :: μ) :=
  h.turn rfl (Own.enc (f := f) (h.ok _ (.head _)) hes (fun a ha => hR _ _ a ha) (fun b hb => hb) hb)
/-- A callee's results. -/
theorem St.joined {w0 w w' : World} {μ ν : List Asrt} (h : St w0 w μ) (h2 : St w w' ν) : St w0 w' (ν ++ μ) := h.join h2
end Go.Proofs.Ytfelikfppjlcmaa

/-
  What comes in, opened up to a depth; trees. (A helper text; it claims nothing of the program.)
-/
namespace Go.Proofs.Ytfelikfppjlcmaa
set_option linter.unusedVariables false
open Go.ChangeShapes Go.WideShapes Go.ChangeAt Go.RowKit

/-- Whatever is read at type t, no deeper than f, reads as E says. -/
structure OpensF (f : Nat) (P : Program) (t : TypeId) {α : Type} (E : Enc α) : Prop where
  h : ∀ {H : Type} {enc : TypeId × Value → H} {w : World} {base : Nat} {spare : Nat → Bool} {held : Bool} {fuel : Nat} {cs : List Value} {x : DataW H × List MemPlace},
    fuel ≤ f → DataW.trod enc P w base spare held fuel t cs = some x → Light P t x.1 → ∃ a, E.R (fun b => b < w.heap.size) w cs a


theorem OpensF.sl {f : Nat} {P : Program} {t e : TypeId} {α : Type} {E : Enc α} {bytes : Nat} (ht : P.underlying t = some (.slice e)) (hs : P.cellsOf e = E.size) (hp : 0 < E.size) (hby : P.bytesOf e = bytes) (hE : OpensF f P e E) : OpensF (f + 1) P t (Enc.sl E bytes) := by
  constructor
  intro H enc w base spare held fuel cs x hff h hl
  rcases DataW.trod_slice ht h with ⟨h0, _⟩ | ⟨a, len, cap, elems, rest, n, hfn, rfl, hx, hb, hlc, hm, hlen, hel, hrl, _⟩
  · subst h0
    exact ⟨[], none, 0, 0, 0, rfl, Nat.le_refl _, by decide, by simp, fun _ => rfl, fun h => by simp at h, fun i hi => by simp at hi⟩
  · subst hby
    obtain ⟨b, off, spot⟩ := a
    have hwt : x.1.weights P t = ((elems.map (·.1)).length + (rest.map (·.1)).length) * P.bytesOf e :: (DataW.weightsAll P e (elems.map (·.1)) ++ DataW.weightsAll P e (rest.map (·.1))) := by
      rw [hx, DataW.weights, ht]
    have hw : (elems.length : Int) * (P.bytesOf e : Int) ≤ 140737488355328 := by
      have := hl (((elems.map (·.1)).length + (rest.map (·.1)).length) * P.bytesOf e) (by rw [hwt]; exact .head _)
      unfold reachBytes at this
      rw [List.length_map, Nat.add_mul] at this
      have h3 := Nat.le_trans (Nat.le_add_right _ _) this
      clear this
      rw [← Int.natCast_mul]
      omega
    have light : ∀ i (hi : i < elems.length), Light P e (elems[i]).1 := by
      intro i hi m hm2
      refine hl m ?_
      rw [hwt]
      refine .tail _ (List.mem_append.2 (.inl ?_))
      have hmem : (elems[i]).1 ∈ elems.map (·.1) := List.mem_map.2 ⟨_, List.getElem_mem hi, rfl⟩
      clear hw hl hel hlen hx hwt
      generalize elems.map (·.1) = L at hmem
      induction L with
      | nil => cases hmem
      | cons d r ih =>
        rw [DataW.weightsAll, List.mem_append]
        rcases List.mem_cons.1 hmem with h | h
        · rw [← h]; exact .inl hm2
        · exact .inr (ih h)
    have each : ∀ i, i < len → ∃ q : α × List Value, (∃ cs', w.cells? base ((⟨b, off, spot⟩ : Addr).add (i * P.cellsOf e)) (P.cellsOf e) = some cs' ∧ q.2 = cs' ∧ E.R (fun b => b < w.heap.size) w cs' q.1) := by
      intro i hi
      have h1 := hel i hi
      rw [List.getElem?_eq_getElem (by omega)] at h1
      obtain ⟨cs', h2, h3⟩ := Option.bind_eq_some_iff.1 h1
      obtain ⟨hbb, hl2, _⟩ := World.cells?_some h2
      obtain ⟨a, ha⟩ := hE.h (by omega) h3 (light i (by omega))
      exact ⟨(a, cs'), cs', h2, rfl, ha⟩
    obtain ⟨l, hl1, hl2⟩ := list_of_each each
    have spot0 : 0 < len → spot = none ∧ b < w.heap.size := by
      intro hpos
      obtain ⟨cs0, g2, _, _⟩ := hl2 0 (by omega)
      obtain ⟨_, g3, gc⟩ := World.cells?_some g2
      have h0 := gc 0 (by omega)
      rw [List.getElem?_eq_getElem (by omega)] at h0
      have hz : ((⟨b, off, spot⟩ : Addr).add (0 * P.cellsOf e)).add 0 = ⟨b, off, spot⟩ := by simp [Addr.add]
      rw [hz] at h0
      exact ⟨World.cell?_spot h0, World.block_lt_of_cell? w _ h0⟩
    refine ⟨l.map (·.1), some ⟨b, off, spot⟩, b, off, cap, by simp [hl1], by simp [hl1]; omega, hm, ?_, (fun h => by cases h), fun hpos => ?_, fun i hi => ?_⟩
    · rw [List.length_map, hl1, ← hlen]
      exact hw
    · have hi0 : 0 < l.length := by simpa using hpos
      obtain ⟨h1, h2⟩ := spot0 (by omega)
      subst h1
      exact ⟨rfl, h2, h2⟩
    · have hi0 : i < l.length := by simpa using hi
      obtain ⟨cs', h2, h5, h6⟩ := hl2 i hi0
      obtain ⟨_, hl3, hc⟩ := World.cells?_some h2
      obtain ⟨h7, _⟩ := spot0 (by omega)
      subst h7
      refine ⟨cs', by rw [hl3, hs], fun j hj => ?_, by simpa [h5] using h6⟩
      rw [← hs] at hj
      rw [← hc j hj]
      congr 1
      rw [hs]
      unfold Addr.add
      by_cases e1 : i * E.size = 0 <;> by_cases e2 : j = 0 <;> simp [e1, e2]

/-- From field i on, no deeper than F. -/
structure OpensFromF (F : Nat) (P : Program) (fs : Array Field) (i o : Nat) {α : Type} (E : Enc α) : Prop where
  h : ∀ {H : Type} {enc : TypeId × Value → H} {w : World} {base : Nat} {spare : Nat → Bool} {held : Bool} {m : Nat} {cs : List Value},
    m ≤ F → cs.length = o + E.size → (∀ k f, i ≤ k → fs[k]? = some f → ∃ y, DataW.trod enc P w base spare held m f.type ((cs.drop f.offset).take (P.cellsOf f.type)) = some y ∧ Light P f.type y.1) → ∃ a, E.R (fun b => b < w.heap.size) w (cs.drop o) a

theorem OpensFromF.last {F : Nat} {P : Program} {fs : Array Field} {i o : Nat} {α : Type} {E : Enc α} {f : Field} (hf : fs[i]? = some f) (ho : f.offset = o) (hc : P.cellsOf f.type = E.size) (hO : OpensF F P f.type E) : OpensFromF F P fs i o E := by
  constructor
  intro H enc w base spare held m cs hmf hl h
  obtain ⟨y, hy, hlt⟩ := h i f (Nat.le_refl _) hf
  rw [ho, List.take_of_length_le (by rw [List.length_drop]; omega)] at hy
  exact hO.h hmf hy hlt
theorem OpensFromF.cons {F : Nat} {P : Program} {fs : Array Field} {i o : Nat} {α β : Type} {E : Enc α} {E' : Enc β} {f : Field} (hf : fs[i]? = some f) (ho : f.offset = o) (hc : P.cellsOf f.type = E.size) (hO : OpensF F P f.type E) (hT : OpensFromF F P fs (i + 1) (o + E.size) E') : OpensFromF F P fs i o (E.prod E') := by
  constructor
  intro H enc w base spare held m cs hmf hl h
  obtain ⟨y, hy, hlt⟩ := h i f (Nat.le_refl _) hf
  rw [ho, hc] at hy
  obtain ⟨a, ha⟩ := hO.h hmf hy hlt
  obtain ⟨b, hb⟩ := hT.h hmf (by rw [hl]; simp only [Enc.prod]; omega) fun k f hk hf => h k f (by omega) hf
  refine ⟨(a, b), _, _, ?_, ha, hb⟩
  rw [← List.drop_drop, List.take_append_drop]
theorem OpensF.struct {F : Nat} {P : Program} {t : TypeId} {fs : Array Field} {α : Type} {E : Enc α} (ht : P.underlying t = some (.struct fs)) (hc : P.cellsOf t = E.size) (h : OpensFromF F P fs 0 0 E) : OpensF (F + 1) P t E := by
  constructor
  intro H enc w base spare held fuel cs x hff hx hl
  obtain ⟨xs, n, hfn, hx1, hlen, hfs, hel⟩ := DataW.trod_struct ht hx
  have := h.h (m := n) (by omega) (cs := cs) (by rw [hlen, hc, Nat.zero_add]) fun k f _ hf => by
    have hk : k < fs.size := (Array.getElem?_eq_some_iff.1 hf).1
    have h1 := hel k f hf
    rw [List.getElem?_eq_getElem (by omega)] at h1
    refine ⟨_, h1, fun m hm => hl m ?_⟩
    have e : x.1.weights P t = DataW.weightsEach P (fs.toList.map (·.type)) (xs.map (·.1)) := by rw [hx1, DataW.weights, ht]
    rw [e]
    exact DataW.weights_mem_each (j := k) (t := f.type) (by simp [hf]) (by rw [List.getElem?_map, List.getElem?_eq_getElem (by omega)]; rfl) m hm
  exact this

theorem Opens.upto {P : Program} {t : TypeId} {α : Type} {E : Enc α} (h : Opens P t E) (f : Nat) : OpensF f P t E := ⟨fun _ hx hl => h.h hx hl⟩
theorem OpensF.le {f g : Nat} {P : Program} {t : TypeId} {α : Type} {E : Enc α} (h : OpensF f P t E) (hg : g ≤ f) : OpensF g P t E := ⟨fun hf hx hl => h.h (Nat.le_trans hf hg) hx hl⟩

/-- A tree: production, token, kids. -/
inductive Tr where
  | mk : Int → Int → List Tr → Tr
namespace Tr
def prod : Tr → Int | .mk p _ _ => p
def tok : Tr → Int | .mk _ k _ => k
def kids : Tr → List Tr | .mk _ _ l => l
def parts (t : Tr) : Int × Int × List Tr := (t.prod, t.tok, t.kids)
def noEnc : Enc Tr := ⟨3, fun _ _ _ _ => False, fun h => h.elim, fun h _ _ => h⟩
/-- Trees no taller than n. -/
def enc : Nat → Enc Tr
  | 0 => noEnc
  | n + 1 => (Enc.prod (Enc.int .i64) (Enc.prod (Enc.int .i64) ((enc n).sl 40))).via parts
theorem enc_size : ∀ n, (enc n).size = 3
  | 0 => rfl
  | n + 1 => rfl
theorem enc_up {n : Nat} : ∀ {F : Nat → Prop} {w : World} {cs : List Value} {t : Tr}, (enc n).R F w cs t → (enc (n + 1)).R F w cs t := by
  induction n with
  | zero => intro F w cs t h; exact h.elim
  | succ n ih =>
    intro F w cs t h
    obtain ⟨c1, c2, rfl, h1, c3, c4, rfl, h2, ao, b, off, cap, e0, e1, e2, e3, e4, e5, e6⟩ := h
    refine ⟨c1, c3 ++ c4, rfl, h1, c3, c4, rfl, h2, ao, b, off, cap, e0, e1, e2, e3, e4, e5, fun i hi => ?_⟩
    obtain ⟨cs, g1, g2, g3⟩ := e6 i hi
    rw [enc_size] at g1 g2
    exact ⟨cs, by rw [enc_size]; exact g1, by rw [enc_size]; exact g2, ih g3⟩
end Tr
theorem opens_tree {P : Program} {t ts : TypeId} {f0 f1 f2 : Field} (ht : P.underlying t = some (.struct #[f0, f1, f2])) (hts : P.underlying f2.type = some (.slice t)) (hc : P.cellsOf t = 3) (hby : P.bytesOf t = 40) (o0 : f0.offset = 0) (o1 : f1.offset = 1) (o2 : f2.offset = 2)
    (c0 : P.cellsOf f0.type = 1) (c1 : P.cellsOf f1.type = 1) (c2 : P.cellsOf f2.type = 1) (k0 : P.underlying f0.type = some (.int .i64)) (k1 : P.underlying f1.type = some (.int .i64)) : ∀ f, OpensF f P t (Tr.enc f) := by
  intro f
  induction f with
  | zero =>
    constructor
    intro H enc w base spare held fuel cs x hf h _
    obtain rfl : fuel = 0 := by omega
    simp [DataW.trod] at h
  | succ f ih =>
    have h2 : OpensF f P f2.type ((Tr.enc f).sl 40) := ((OpensF.sl hts (by rw [hc, Tr.enc_size]) (by rw [Tr.enc_size]; decide) hby ih).le (Nat.le_succ f))
    have hs := OpensF.struct (E := Enc.prod (Enc.int .i64) (Enc.prod (Enc.int .i64) ((Tr.enc f).sl 40))) ht (by rw [hc]; rfl) (OpensFromF.cons (f := f0) rfl o0 c0 ((Opens.int k0).upto f) (OpensFromF.cons (f := f1) rfl o1 c1 ((Opens.int k1).upto f) (OpensFromF.last (f := f2) rfl o2 c2 h2)))
    constructor
    intro H enc w base spare held fuel cs x hf h hl
    obtain ⟨⟨p, k, l⟩, ha⟩ := hs.h hf h hl
    exact ⟨.mk p k l, ha⟩
end Go.Proofs.Ytfelikfppjlcmaa

/-
  Regular expressions that come in, opened up to a depth. (A helper text; it claims nothing of the program.)
-/
namespace Go.Proofs.Ytfelikfppjlcmaa
set_option linter.unusedVariables false
open Go.ChangeShapes Go.WideShapes Go.ChangeAt Go.RowKit

/-- A regular expression: kind, class, kids. -/
inductive Rx where
  | mk : Int → List Int → List Rx → Rx
namespace Rx
def kind : Rx → Int | .mk p _ _ => p
def cls : Rx → List Int | .mk _ k _ => k
def kids : Rx → List Rx | .mk _ _ l => l
def parts (t : Rx) : Int × List Int × List Rx := (t.kind, t.cls, t.kids)
def noEnc : Enc Rx := ⟨6, fun _ _ _ _ => False, fun h => h.elim, fun h _ _ => h⟩
/-- No taller than n. -/
def enc : Nat → Enc Rx
  | 0 => noEnc
  | n + 1 => (Enc.prod (Enc.int .i64) (Enc.prod (Enc.row .u64 4) ((enc n).sl 64))).via parts
theorem enc_size : ∀ n, (enc n).size = 6
  | 0 => rfl
  | n + 1 => rfl
theorem enc_up {n : Nat} : ∀ {F : Nat → Prop} {w : World} {cs : List Value} {t : Rx}, (enc n).R F w cs t → (enc (n + 1)).R F w cs t := by
  induction n with
  | zero => intro F w cs t h; exact h.elim
  | succ n ih =>
    intro F w cs t h
    obtain ⟨c1, c2, rfl, h1, c3, c4, rfl, h2, ao, b, off, cap, e0, e1, e2, e3, e4, e5, e6⟩ := h
    refine ⟨c1, c3 ++ c4, rfl, h1, c3, c4, rfl, h2, ao, b, off, cap, e0, e1, e2, e3, e4, e5, fun i hi => ?_⟩
    obtain ⟨cs, g1, g2, g3⟩ := e6 i hi
    rw [enc_size] at g1 g2
    exact ⟨cs, by rw [enc_size]; exact g1, by rw [enc_size]; exact g2, ih g3⟩
theorem enc_le {n : Nat} {F : Nat → Prop} {w : World} {cs : List Value} {t : Rx} (h : (enc n).R F w cs t) : ∀ {m : Nat}, n ≤ m → (enc m).R F w cs t := by
  intro m hm
  obtain ⟨k, rfl⟩ := Nat.exists_eq_add_of_le hm
  induction k with
  | zero => exact h
  | succ k ih => exact enc_up (ih (by omega))
/-- However tall. -/
def any : Enc Rx where
  size := 6
  R := fun F w cs t => ∃ n, (Rx.enc n).R F w cs t
  len := fun ⟨n, h⟩ => by rw [(Rx.enc n).len h, Rx.enc_size]
  mono := fun ⟨n, h⟩ hF hb => ⟨n, Enc.mono _ h hF hb⟩
theorem sl_any {n : Nat} {F : Nat → Prop} {w : World} {vs : List Value} {ks : List Rx} (h : ((enc n).sl 64).R F w vs ks) : (any.sl 64).R F w vs ks := by
  obtain ⟨ao, b, off, cap, h0, h1, h2, h3, h4, h5, h6⟩ := h
  refine ⟨ao, b, off, cap, h0, h1, h2, h3, h4, h5, fun i hi => ?_⟩
  obtain ⟨cs, g1, g2, g3⟩ := h6 i hi
  rw [enc_size] at g1 g2
  exact ⟨cs, g1, g2, n, g3⟩
theorem any_sl {F : Nat → Prop} {w : World} {vs : List Value} {ks : List Rx} (h : (any.sl 64).R F w vs ks) : ∃ n, ((enc n).sl 64).R F w vs ks := by
  obtain ⟨ao, b, off, cap, h0, h1, h2, h3, h4, h5, h6⟩ := h
  have key : ∀ m, ∃ N, ∀ i (hi : i < ks.length), i < m → ∃ cs : List Value, cs.length = 6 ∧ (∀ j, j < 6 → w.cell? ⟨b, off + i * 6 + j, Option.none⟩ = cs[j]?) ∧ (enc N).R F w cs ks[i] := by
    intro m
    induction m with
    | zero => exact ⟨0, fun i _ h => by omega⟩
    | succ m ih =>
      obtain ⟨N, hN⟩ := ih
      by_cases hm : m < ks.length
      · obtain ⟨cs, g1, g2, N2, g3⟩ := h6 m hm
        refine ⟨N + N2, fun i hi hl => ?_⟩
        by_cases he : i = m
        · subst he
          exact ⟨cs, g1, g2, enc_le g3 (by omega)⟩
        · obtain ⟨cs', q1, q2, q3⟩ := hN i hi (by omega)
          exact ⟨cs', q1, q2, enc_le q3 (by omega)⟩
      · exact ⟨N, fun i hi hl => hN i hi (by omega)⟩
  obtain ⟨N, hN⟩ := key ks.length
  refine ⟨N, ao, b, off, cap, h0, h1, h2, h3, h4, h5, fun i hi => ?_⟩
  obtain ⟨cs, g1, g2, g3⟩ := hN i hi hi
  exact ⟨cs, by rw [enc_size]; exact g1, by rw [enc_size]; exact g2, g3⟩
/-- The class of a node: four words. -/
def ClsOk (c : List Int) : Prop := c.length = 4 ∧ ∀ x ∈ c, (Lit.int .u64 x).wf = true
theorem cls4 {c : List Int} (h : ClsOk c) : ∃ a b d e : Int, c = [a, b, d, e] := by
  obtain ⟨h, _⟩ := h
  match c, h with
  | [a, b, d, e], _ => exact ⟨a, b, d, e, rfl⟩
theorem cls_wf {c : List Int} (h : ClsOk c) : ∀ x ∈ c, 0 ≤ x ∧ x < 18446744073709551616 := fun x hx => by
  have := h.2 x hx
  simp [Lit.wf, IntKind.min, IntKind.max, IntKind.signed, IntKind.bits] at this
  omega
def cells (t : Rx) (vk : Value) : List Value := .int .i64 t.kind :: (t.cls.map (Value.int .u64) ++ [vk])
theorem any_open {F : Nat → Prop} {w : World} {cs : List Value} {t : Rx} (h : any.R F w cs t) : ∃ vk, cs = cells t vk ∧ (Lit.int .i64 t.kind).wf = true ∧ ClsOk t.cls ∧ (any.sl 64).R F w [vk] t.kids := by
  obtain ⟨n, hn⟩ := h
  cases n with
  | zero => exact hn.elim
  | succ m =>
    obtain ⟨c1, c2, rfl, ⟨rfl, h1⟩, c3, c4, rfl, ⟨rfl, h2, h2'⟩, h3⟩ := hn
    have h4 := h3
    obtain ⟨ao, b, off, cap, rfl, _⟩ := h4
    exact ⟨_, rfl, h1, ⟨h2, h2'⟩, sl_any h3⟩
theorem any_mk {F : Nat → Prop} {w : World} {p : Int} {k : List Int} {v : Value} {ks : List Rx} (hp : (Lit.int .i64 p).wf = true) (hk : ClsOk k) (h : (any.sl 64).R F w [v] ks) : any.R F w (cells (.mk p k ks) v) (.mk p k ks) := by
  obtain ⟨n, hn⟩ := any_sl h
  exact ⟨n + 1, [.int .i64 p], k.map (Value.int .u64) ++ [v], rfl, ⟨rfl, hp⟩, k.map (Value.int .u64), [v], rfl, ⟨rfl, hk.1, hk.2⟩, hn⟩
theorem sl_nil {F : Nat → Prop} {w : World} : (any.sl 64).R F w [.slice Option.none 0 0] [] :=
  ⟨Option.none, 0, 0, 0, rfl, Nat.le_refl _, by decide, by simp, fun _ => rfl, fun h => by simp at h, fun i hi => by simp at hi⟩
/-- How tall. -/
noncomputable def tall (t : Rx) : Nat := Rx.rec (motive_1 := fun _ => Nat) (motive_2 := fun _ => Nat) (fun _ _ _ n => n + 1) 0 (fun _ _ a b => max a b) t
end Rx
theorem opens_rex {P : Program} {t : TypeId} {f0 f1 f2 : Field} {e : TypeId} (ht : P.underlying t = some (.struct #[f0, f1, f2])) (hts : P.underlying f2.type = some (.slice t)) (hc : P.cellsOf t = 6) (hby : P.bytesOf t = 64) (o0 : f0.offset = 0) (o1 : f1.offset = 1) (o2 : f2.offset = 5)
    (c0 : P.cellsOf f0.type = 1) (c1 : P.cellsOf f1.type = 4) (c2 : P.cellsOf f2.type = 1) (k0 : P.underlying f0.type = some (.int .i64)) (k1 : P.underlying f1.type = some (.array 4 e)) (ke : P.underlying e = some (.int .u64)) (kc : P.cellsOf e = 1) : ∀ f, OpensF f P t (Rx.enc f) := by
  intro f
  induction f with
  | zero =>
    constructor
    intro H enc w base spare held fuel cs x hf h _
    obtain rfl : fuel = 0 := by omega
    simp [DataW.trod] at h
  | succ f ih =>
    have h2 : OpensF f P f2.type ((Rx.enc f).sl 64) := ((OpensF.sl hts (by rw [hc, Rx.enc_size]) (by rw [Rx.enc_size]; decide) hby ih).le (Nat.le_succ f))
    have hs := OpensF.struct (E := Enc.prod (Enc.int .i64) (Enc.prod (Enc.row .u64 4) ((Rx.enc f).sl 64))) ht (by rw [hc]; rfl) (OpensFromF.cons (f := f0) rfl o0 c0 ((Opens.int k0).upto f) (OpensFromF.cons (f := f1) rfl o1 c1 ((Opens.row k1 ke kc c1).upto f) (OpensFromF.last (f := f2) rfl o2 c2 h2)))
    constructor
    intro H enc w base spare held fuel cs x hf h hl
    obtain ⟨⟨p, k, l⟩, ha⟩ := hs.h hf h hl
    exact ⟨.mk p k l, ha⟩
theorem opens_anyRex : Opens Try.prog 27 Rx.any := by
  constructor
  intro H enc w base spare held fuel cs x h hl
  obtain ⟨a, ha⟩ := (opens_rex Try.underlying27 Try.underlying25 (by kernel_rfl) (by kernel_rfl) rfl rfl rfl (by kernel_rfl) (by kernel_rfl) (by kernel_rfl) Try.underlying3 Try.underlying24 Try.underlying22 (by kernel_rfl) fuel).h (Nat.le_refl _) h hl
  exact ⟨a, fuel, ha⟩
end Go.Proofs.Ytfelikfppjlcmaa

/-
  What the call owns, in another order, some of it left out. (A helper text; it claims nothing of the program.)
-/
namespace Go.Proofs.Ytfelikfppjlcmaa
set_option linter.unusedVariables false
open Go.ChangeShapes Go.WideShapes Go.ChangeAt Go.RowKit

def picks (is : List Nat) (k : Nat) : Bool := is.all (· < k) && decide is.Nodup
/-- Those of the first k that 'is' names, in that order; and all behind them. -/
theorem St.pick {w0 w : World} {μ ρ : List Asrt} (h : St w0 w μ) (is : List Nat) (k : Nat) (hi : picks is k = true) (he : is.filterMap (fun i => μ[i]?) ++ μ.drop k = ρ) : St w0 w ρ := by
  unfold picks at hi
  rw [Bool.and_eq_true, List.all_eq_true, decide_eq_true_eq] at hi
  obtain ⟨hk, hnd⟩ := hi
  have hmem : ∀ A ∈ ρ, A ∈ μ := by
    intro A hA
    rw [← he, List.mem_append, List.mem_filterMap] at hA
    rcases hA with ⟨i, _, hi⟩ | hA
    · exact List.mem_of_getElem? hi
    · exact List.mem_of_mem_drop hA
  refine ⟨h.bel, fun A hA => h.ok A (hmem A hA), fun A hA => h.lo A (hmem A hA), ?_⟩
  have hs := h.sep
  unfold List.Nodup at hs hnd ⊢
  rw [List.pairwise_flatMap] at hs ⊢
  refine ⟨fun A hA => hs.1 A (hmem A hA), ?_⟩
  have hp := List.pairwise_iff_getElem.1 hs.2
  have hij : ∀ (i j : Nat) (A B : Asrt), i ≠ j → μ[i]? = some A → μ[j]? = some B → ∀ x ∈ A.fp, ∀ y ∈ B.fp, x ≠ y := by
    intro i j A B hne hA hB x hx y hy
    obtain ⟨h1, rfl⟩ := List.getElem?_eq_some_iff.1 hA
    obtain ⟨h2, rfl⟩ := List.getElem?_eq_some_iff.1 hB
    rcases Nat.lt_or_gt_of_ne hne with hlt | hlt
    · exact hp i j h1 h2 hlt x hx y hy
    · exact fun e => hp j i h2 h1 hlt y hy x hx e.symm
  rw [← he, List.pairwise_append]
  refine ⟨?_, hs.2.sublist (List.drop_sublist k μ), ?_⟩
  · rw [List.pairwise_filterMap]
    exact hnd.imp (fun {i j} hne A hA B hB => hij i j A B hne hA hB)
  · intro A hA B hB
    rw [List.mem_filterMap] at hA
    obtain ⟨i, hi, hA⟩ := hA
    obtain ⟨j, hj⟩ := List.mem_iff_getElem?.1 hB
    rw [List.getElem?_drop] at hj
    have := hk i hi
    rw [decide_eq_true_eq] at this
    exact hij i (k + j) A B (by omega) hA hj
end Go.Proofs.Ytfelikfppjlcmaa

/-
  A map that the call made, among what the call owns. (A helper text; it claims nothing of the program.)
-/
namespace Go.Proofs.Ytfelikfppjlcmaa
set_option linter.unusedVariables false
open Go.ChangeShapes Go.WideShapes Go.ChangeAt Go.RowKit

/-- Block b is a map of at most n entries that reads as D; its elements are of the plain type e. -/
def aMap (k e : TypeId) (b n : Nat) (D : DataW Unit) : Asrt where
  fp := [b]
  ok := fun w => w.ownsMap Try.prog k (plainElem Try.prog e) b n D
  loc := fun w w' hb h => by
    obtain ⟨es, clock, h1, h2⟩ := h
    exact ⟨es, clock, (hb b (by simp)).trans h1, h2⟩
section
variable {w0 w w' : World} {μ : List Asrt} {k e : TypeId} {b n : Nat} {D D' : DataW Unit}
theorem St.mapOwn (h : St w0 w (aMap k e b n D :: μ)) : w.ownsMap Try.prog k (plainElem Try.prog e) b n D := h.ok _ (.head _)
/-- make(map[K]E). -/
theorem St.makeMap (h : St w0 w μ) (k e : TypeId) : St w0 (w.alloc (.map #[] 0)) (aMap k e w.heap.size 0 (.map []) :: μ) :=
  h.push ((Below.refl _ _).alloc (Nat.le_refl _) _) (World.ownsMap_made w Try.prog k _) (fun x hx => by simp [aMap] at hx; subst hx; simp) (by simp [aMap])
/-- m[k] = v, behind the kit's law. -/
theorem St.mapPut (h : St w0 w (aMap k e b n D :: μ)) (ho : w'.ownsMap Try.prog k (plainElem Try.prog e) b (n + 1) D') (hg : w.grownBy w' (some b)) : St w0 w' (aMap k e b (n + 1) D' :: μ) := by
  refine h.upd hg.os hg.tape hg.output hg.size (fun x hx hm => ?_) ho (fun x hx => .inl hx) (by simp [aMap])
  exact hg.block x hx (fun he => hm (by simp [aMap]; exact (Option.some.inj he)))
theorem St.mapMono (h : St w0 w (aMap k e b n D :: μ)) {m : Nat} (hm : n ≤ m) : St w0 w (aMap k e b m D :: μ) := h.turn rfl (h.mapOwn.mono hm)
end
end Go.Proofs.Ytfelikfppjlcmaa

/-
  Arrays of numbers as keys of a map. (A helper text; it claims nothing of the program.)
-/
namespace Go.Proofs.Ytfelikfppjlcmaa
set_option linter.unusedVariables false
open Go.ChangeShapes Go.WideShapes Go.ChangeAt Go.RowKit

theorem mapM_some {α β : Type} {f : α → Option β} : ∀ (l : List α), (∀ a ∈ l, ∃ b, f a = some b) → ∃ bs, l.mapM f = some bs := by
  intro l
  induction l with
  | nil => intro _; exact ⟨[], rfl⟩
  | cons a l ih =>
    intro h
    obtain ⟨b, hb⟩ := h a (.head _)
    obtain ⟨bs, hbs⟩ := ih (fun x hx => h x (.tail _ hx))
    exact ⟨b :: bs, by rw [List.mapM_cons, hb, hbs]; rfl⟩
/-- An array of numbers reads as a key. -/
theorem arr_key {P : Program} {k e : TypeId} {n : Nat} {q : IntKind} (A : WideMaps.ArrKey P k e n) (he : P.underlying e = some (.int q)) (hsz : ∃ m, P.types.size = m + 1) (xs : List Int) (hn : xs.length = n) (hw : ∀ x ∈ xs, (Lit.int q x).wf = true) :
    ∃ kl, keyOf P k (.agg (xs.map (Value.int q)).toArray) = some kl := by
  have hkt := A.keyType hsz
  obtain ⟨m, hm⟩ := hsz
  unfold keyOf
  simp only [A.hu]
  rw [if_pos (by simp [hkt, Value.formed, A.hu, A.size, hn]), hm]
  unfold Program.keyLits
  simp only [A.hu, Value.cells]
  rw [if_pos (by rw [A.size]; simp [hn])]
  obtain ⟨bs, hbs⟩ := mapM_some (f := fun i => P.keyLits (m + 1) e (((xs.map (Value.int q)).toArray.toList.drop (i * P.cellsOf e)).take (P.cellsOf e))) (List.range n) (fun i hi => by
    have hi2 : i < xs.length := by rw [hn]; exact List.mem_range.1 hi
    refine ⟨[.int q xs[i]], ?_⟩
    rw [A.one, Nat.mul_one, List.drop_eq_getElem_cons (by simpa using hi2)]
    simp only [List.take_succ_cons, List.take_zero]
    unfold Program.keyLits
    simp [he, hw xs[i] (List.getElem_mem hi2)])
  rw [hbs]
  exact ⟨_, rfl⟩
end Go.Proofs.Ytfelikfppjlcmaa

/-
  A map that the call made, as a list of keys with their numbers, the newest first. (A helper text; it claims nothing of the program.)
-/
namespace Go.Proofs.Ytfelikfppjlcmaa
set_option linter.unusedVariables false
open Go.ChangeShapes Go.WideShapes Go.ChangeAt Go.RowKit

/-- The number at a key, 0 where there is none. -/
def numAt {κ : Type} [DecidableEq κ] (L : List (κ × Int)) (c : κ) : Int := match L.find? (fun p => decide (p.1 = c)) with
  | some p => p.2
  | none => 0
def hasAt {κ : Type} [DecidableEq κ] (L : List (κ × Int)) (c : κ) : Bool := L.any (fun p => decide (p.1 = c))
/-- D tells of L. -/
def Tells {κ : Type} [DecidableEq κ] (k : TypeId) (kv : κ → Value) (D : DataW Unit) (L : List (κ × Int)) : Prop :=
  Maps.Tidy D ∧ ∀ c kl, keyOf Try.prog k (kv c) = some kl → Maps.has D kl = hasAt L c ∧ D.atKey kl (.lit (.int .i64 0)) = .lit (.int .i64 (numAt L c))
section
variable {κ : Type} [DecidableEq κ] {k : TypeId} {kv : κ → Value} {D : DataW Unit} {L : List (κ × Int)}
theorem Tells.nil : Tells k kv (.map [] : DataW Unit) ([] : List (κ × Int)) := ⟨Maps.tidy_empty, fun _ _ _ => ⟨rfl, rfl⟩⟩
theorem Tells.put (h : Tells k kv D L) (K : Maps.Keyed Try.prog k) (hinj : ∀ a b, kv a = kv b → a = b) {c : κ} {kl : Lit} (hc : keyOf Try.prog k (kv c) = some kl) (x : Int) : Tells k kv (D.put kl (.lit (.int .i64 x))) ((c, x) :: L) := by
  refine ⟨h.1.put (K.key hc) _, fun c' kl' hc' => ?_⟩
  by_cases he : c = c'
  · subst he
    rw [hc] at hc'
    cases hc'
    refine ⟨?_, ?_⟩
    · rw [Maps.has_put_same h.1.isMap (K.key hc)]; simp [hasAt]
    · rw [Maps.atKey_put_same h.1.isMap (K.key hc)]; simp [numAt]
  · have hne : kl' ≠ kl := by
      rintro rfl
      exact he (hinj _ _ (K.inj hc hc'))
    obtain ⟨h1, h2⟩ := h.2 c' kl' hc'
    refine ⟨?_, ?_⟩
    · rw [Maps.has_put_other hne, h1]; simp [hasAt, he]
    · rw [Maps.atKey_put_other hne, h2]; simp [numAt, he]
theorem Tells.size_new (h : Tells k kv D L) {c : κ} {kl : Lit} (hc : keyOf Try.prog k (kv c) = some kl) (hn : hasAt L c = false) (x : Int) : Maps.size (D.put kl (.lit (.int .i64 x))) = Maps.size D + 1 := by
  rw [Maps.size_put h.1, (h.2 c kl hc).1, hn]; simp
end
end Go.Proofs.Ytfelikfppjlcmaa

/-
  Has of package class and of the reference: is a byte in a class?
-/
namespace Go.Proofs.Ytfelikfppjlcmaa
set_option linter.unusedVariables false
open Go.ChangeShapes Go.WideShapes Go.ChangeAt Go.RowKit

namespace Pl
/-- Is the byte in the class (four words)? -/
def has (c : List Int) (b : Nat) : Bool := decide ((c.getD (b / 64) 0).toNat / 2 ^ (b % 64) % 2 = 1)
theorem and_one (y k : Nat) (hy : (y : Int) < 18446744073709551616) : (bits .and .u64 ((y : Int) / 2 ^ k) 1 == 1) = decide ((y : Int).toNat / 2 ^ k % 2 = 1) := by
  have h1 : ((y : Int) / 2 ^ k) = ((y / 2 ^ k : Nat) : Int) := by simp
  have hlt : y / 2 ^ k < 18446744073709551616 := Nat.lt_of_le_of_lt (Nat.div_le_self _ _) (by omega)
  rw [h1, show (1 : Int) = ((1 : Nat) : Int) from rfl, bits_and_u64_nat _ _ hlt (by omega), Int.toNat_natCast, Nat.and_one_is_mod, Bool.eq_iff_iff, beq_iff_eq, decide_eq_true_iff]
  omega
theorem rem_two (y k : Nat) : ((y : Int) / 2 ^ k % 2 == 1) = decide ((y : Int).toNat / 2 ^ k % 2 = 1) := by
  have h1 : ((y : Int) / 2 ^ k) = ((y / 2 ^ k : Nat) : Int) := by simp
  rw [h1, Int.toNat_natCast, Bool.eq_iff_iff, beq_iff_eq, decide_eq_true_iff]
  omega
end Pl


end Go.Proofs.Ytfelikfppjlcmaa

/-
  One state at a time: the sets of places, as lists; the sets as four words. (Plain functions; nothing of the program is claimed.)
-/
namespace Go.Proofs.Ytfelikfppjlcmaa
set_option linter.unusedVariables false

namespace Dm
/-! Four words. -/
def mem (ws : List Nat) (i : Nat) : Bool := (ws.getD (i / 64) 0).testBit (i % 64)
def put (ws : List Nat) (i : Nat) : List Nat := ws.set (i / 64) (ws.getD (i / 64) 0 ||| 2 ^ (i % 64))
structure Ok4 (ws : List Nat) : Prop where
  len : ws.length = 4
  lt : ∀ j, ws.getD j 0 < 2 ^ 64
def zero : List Nat := [0, 0, 0, 0]
theorem ok_zero : Ok4 zero := ⟨rfl, fun j => by
  match j with
  | 0 => decide
  | 1 => decide
  | 2 => decide
  | 3 => decide
  | j + 4 => simp [zero, List.getD]⟩
theorem mem_zero (i : Nat) : mem zero i = false := by
  have h : ∀ j, zero.getD j 0 = 0 := fun j => by
    match j with
    | 0 => rfl
    | 1 => rfl
    | 2 => rfl
    | 3 => rfl
    | j + 4 => simp [zero, List.getD]
  unfold mem; rw [h]; simp
theorem ok_put {ws : List Nat} (h : Ok4 ws) {i : Nat} (hi : i < 256) : Ok4 (put ws i) := by
  refine ⟨by simp [put, h.len], fun j => ?_⟩
  unfold put
  by_cases e : i / 64 = j
  · subst e
    rw [List.getD_eq_getElem?_getD, List.getElem?_set_self (by rw [h.len]; omega)]
    exact Nat.or_lt_two_pow (h.lt _) (Nat.pow_lt_pow_right (by decide) (by omega))
  · rw [List.getD_eq_getElem?_getD, List.getElem?_set_ne e, ← List.getD_eq_getElem?_getD]
    exact h.lt j
theorem mem_put {ws : List Nat} (h : Ok4 ws) {i j : Nat} (hi : i < 256) (hj : j < 256) : mem (put ws i) j = (mem ws j || decide (i = j)) := by
  unfold mem put
  by_cases e : i / 64 = j / 64
  · rw [← e, List.getD_eq_getElem?_getD, List.getElem?_set_self (by rw [h.len]; omega)]
    simp only [Option.getD_some, Nat.testBit_or, Nat.testBit_two_pow]
    congr 1
    rw [Bool.eq_iff_iff, decide_eq_true_iff, decide_eq_true_iff]
    omega
  · rw [List.getD_eq_getElem?_getD, List.getElem?_set_ne e, ← List.getD_eq_getElem?_getD]
    have : decide (i = j) = false := decide_eq_false (fun h => e (by rw [h]))
    rw [this, Bool.or_false]
theorem ext {a b : List Nat} (ha : Ok4 a) (hb : Ok4 b) (h : ∀ i, i < 256 → mem a i = mem b i) : a = b := by
  apply List.ext_getElem (by rw [ha.len, hb.len])
  intro j h1 h2
  have hj : j < 4 := by rw [ha.len] at h1; exact h1
  have e : ∀ k, k < 64 → (a.getD j 0).testBit k = (b.getD j 0).testBit k := fun k hk => by
    have := h (64 * j + k) (by omega)
    unfold mem at this
    rw [show (64 * j + k) / 64 = j by omega, show (64 * j + k) % 64 = k by omega] at this
    exact this
  have e2 : a.getD j 0 = b.getD j 0 := by
    apply Nat.eq_of_testBit_eq
    intro k
    by_cases hk : k < 64
    · exact e k hk
    · rw [Nat.testBit_lt_two_pow (Nat.lt_of_lt_of_le (ha.lt j) (Nat.pow_le_pow_right (by decide) (by omega))), Nat.testBit_lt_two_pow (Nat.lt_of_lt_of_le (hb.lt j) (Nat.pow_le_pow_right (by decide) (by omega)))]
  simpa [List.getD, List.getElem?_eq_getElem h1, List.getElem?_eq_getElem h2] using e2
def ofL (l : List Nat) : List Nat := l.foldl put zero
theorem foldl_put (l : List Nat) : ∀ ws, Ok4 ws → (∀ x ∈ l, x < 256) → Ok4 (l.foldl put ws) ∧ ∀ j, j < 256 → mem (l.foldl put ws) j = (mem ws j || l.contains j) := by
  induction l with
  | nil => intro ws h _; exact ⟨h, fun j _ => by simp⟩
  | cons x l ih =>
    intro ws h hl
    have hx := hl x (.head _)
    obtain ⟨h1, h2⟩ := ih (put ws x) (ok_put h hx) (fun y hy => hl y (.tail _ hy))
    refine ⟨h1, fun j hj => ?_⟩
    rw [List.foldl_cons, h2 j hj, mem_put h hx hj, List.contains_cons, Bool.or_assoc]
    congr 2
    rw [Bool.eq_iff_iff, decide_eq_true_iff, beq_iff_eq]
    exact eq_comm
theorem ok_ofL {l : List Nat} (h : ∀ x ∈ l, x < 256) : Ok4 (ofL l) := (foldl_put l zero ok_zero h).1
theorem mem_ofL {l : List Nat} (h : ∀ x ∈ l, x < 256) {j : Nat} (hj : j < 256) : mem (ofL l) j = l.contains j := by
  have := (foldl_put l zero ok_zero h).2 j hj
  rw [mem_zero, Bool.false_or] at this
  exact this
/-- Lists out of one rising row that have the same words are the same. -/
theorem sel_ext {c d : Nat → Bool} {n : Nat} (hn : n ≤ 256) (h : ofL ((List.range n).filter c) = ofL ((List.range n).filter d)) : (List.range n).filter c = (List.range n).filter d := by
  have hb : ∀ (c : Nat → Bool), ∀ x ∈ (List.range n).filter c, x < 256 := fun c x hx => by have := List.mem_range.1 (List.mem_filter.1 hx).1; omega
  apply List.filter_congr
  intro x hx
  have hxn := List.mem_range.1 hx
  have h1 := mem_ofL (hb c) (show x < 256 by omega)
  have h2 := mem_ofL (hb d) (show x < 256 by omega)
  rw [h, h2] at h1
  have hc : ∀ (c : Nat → Bool), ((List.range n).filter c).contains x = c x := fun c => by
    rw [Bool.eq_iff_iff, List.contains_iff_mem, List.mem_filter]
    exact ⟨fun q => q.2, fun q => ⟨hx, q⟩⟩
  rw [hc, hc] at h1
  exact h1.symm

/-! The automaton. -/
structure Pn where
  cl : List (List Int)
  ru : List Int
  fi : List Int
  fo : List (List Int)
  la : List Bool
  em : List Bool
def all (P : Pn) (k : Nat) (from_ : List Nat) (x : Nat) : Bool := if k = 0 then P.fi.contains (x : Int) else from_.any fun y => (P.fo.getD y []).contains (x : Int)
def to' (P : Pn) (k : Nat) (from_ : List Nat) (b : Nat) : List Nat := (List.range P.cl.length).filter fun x => all P k from_ x && Pl.has (P.cl.getD x []) b
def least (P : Pn) (l : List Nat) (e : Bool) : Int := match (List.range P.em.length).find? (fun i => (e && P.em.getD i false) || l.any fun y => decide (P.ru.getD y 0 = (i : Int)) && P.la.getD y false) with
  | some i => (i : Int)
  | none => -1
/-- Where a set stands among those behind the first one; their number, if it is new. -/
def at' (S : List (List Nat)) (t : List Nat) : Nat := 1 + (S.drop 1).findIdx (fun s => decide (s = t))
def step (P : Pn) (k : Nat) (fr : List Nat) (st : List (List Nat) × List Int) (b : Nat) : List (List Nat) × List Int :=
  let t := to' P k fr b
  if t = [] then (st.1, st.2 ++ [-1]) else (if at' st.1 t = st.1.length then st.1 ++ [t] else st.1, st.2 ++ [(at' st.1 t : Int)])
def rowK (P : Pn) (k : Nat) (fr : List Nat) (S : List (List Nat)) (b : Nat) : List (List Nat) × List Int := (List.range b).foldl (step P k fr) (S, [])
theorem rowK_zero (P : Pn) (k : Nat) (fr : List Nat) (S : List (List Nat)) : rowK P k fr S 0 = (S, []) := rfl
theorem rowK_succ (P : Pn) (k : Nat) (fr : List Nat) (S : List (List Nat)) (b : Nat) : rowK P k fr S (b + 1) = step P k fr (rowK P k fr S b) b := by
  unfold rowK; rw [List.range_succ, List.foldl_append]; rfl
theorem step_prefix (P : Pn) (k : Nat) (fr : List Nat) (st : List (List Nat) × List Int) (b : Nat) : ∃ T, (step P k fr st b).1 = st.1 ++ T := by
  unfold step
  simp only
  split
  · exact ⟨[], by simp⟩
  · simp only
    split
    · exact ⟨_, rfl⟩
    · exact ⟨[], by simp⟩
theorem rowK_prefix (P : Pn) (k : Nat) (fr : List Nat) (S : List (List Nat)) (b : Nat) : ∃ T, (rowK P k fr S b).1 = S ++ T := by
  induction b with
  | zero => exact ⟨[], by simp [rowK_zero]⟩
  | succ b ih =>
    obtain ⟨T, hT⟩ := ih
    obtain ⟨T2, h2⟩ := step_prefix P k fr (rowK P k fr S b) b
    exact ⟨T ++ T2, by rw [rowK_succ, h2, hT, List.append_assoc]⟩
theorem rowK_len_le (P : Pn) (k : Nat) (fr : List Nat) (S : List (List Nat)) (b : Nat) : S.length ≤ (rowK P k fr S b).1.length := by
  obtain ⟨T, h⟩ := rowK_prefix P k fr S b
  rw [h]; simp
theorem rowK_row_len (P : Pn) (k : Nat) (fr : List Nat) (S : List (List Nat)) (b : Nat) : (rowK P k fr S b).2.length = b := by
  induction b with
  | zero => rfl
  | succ b ih =>
    rw [rowK_succ]
    unfold step
    simp only
    split <;> simp [ih]
theorem step_len_le (P : Pn) (k : Nat) (fr : List Nat) (st : List (List Nat) × List Int) (b : Nat) : (step P k fr st b).1.length ≤ st.1.length + 1 := by
  unfold step
  simp only
  split
  · simp
  · simp only
    split
    · simp
    · simp
theorem rowK_mono (P : Pn) (k : Nat) (fr : List Nat) (S : List (List Nat)) {b c : Nat} (h : b ≤ c) : (rowK P k fr S b).1.length ≤ (rowK P k fr S c).1.length := by
  induction h with
  | refl => exact Nat.le_refl _
  | step _ ih =>
    rename_i m _
    obtain ⟨T, hT⟩ := step_prefix P k fr (rowK P k fr S m) m
    rw [rowK_succ, hT, List.length_append]
    omega
/-- The sets, when k states have got their rows. -/
def sets (P : Pn) : Nat → List (List Nat)
  | 0 => [[]]
  | k + 1 => if k < (sets P k).length then (rowK P k ((sets P k).getD k []) (sets P k) 256).1 else sets P k
theorem sets_succ {P : Pn} {k : Nat} (h : k < (sets P k).length) : sets P (k + 1) = (rowK P k ((sets P k).getD k []) (sets P k) 256).1 := by rw [sets, if_pos h]
def row (P : Pn) (k : Nat) : List Int := (rowK P k ((sets P k).getD k []) (sets P k) 256).2
def rows (P : Pn) (k : Nat) : List (List Int) := (List.range k).map (row P)
theorem rows_succ (P : Pn) (k : Nat) : rows P (k + 1) = rows P k ++ [row P k] := by simp [rows, List.range_succ]
def tags (P : Pn) (S : List (List Nat)) : List Int := least P [] true :: (S.drop 1).map (fun s => least P s false)
theorem tags_snoc (P : Pn) {S : List (List Nat)} (h : 0 < S.length) (t : List Nat) : tags P (S ++ [t]) = tags P S ++ [least P t false] := by
  unfold tags
  rw [List.drop_append_of_le_length (by omega), List.map_append]
  rfl
theorem sets_ne (P : Pn) (k : Nat) : 0 < (sets P k).length := by
  induction k with
  | zero => simp [sets]
  | succ k ih =>
    rw [sets]
    split
    · exact Nat.lt_of_lt_of_le ih (rowK_len_le ..)
    · exact ih
theorem sets_prefix (P : Pn) (m k : Nat) : ∃ T, sets P (m + k) = sets P m ++ T := by
  induction k with
  | zero => exact ⟨[], by simp⟩
  | succ k ih =>
    obtain ⟨T, hT⟩ := ih
    rw [← Nat.add_assoc, sets]
    split
    · obtain ⟨T2, h2⟩ := rowK_prefix P (m + k) ((sets P (m + k)).getD (m + k) []) (sets P (m + k)) 256
      exact ⟨T ++ T2, by rw [h2, hT, List.append_assoc]⟩
    · exact ⟨T, hT⟩
theorem sets_len_le (P : Pn) {m k : Nat} (h : m ≤ k) : (sets P m).length ≤ (sets P k).length := by
  obtain ⟨T, hT⟩ := sets_prefix P m (k - m)
  rw [show m + (k - m) = k by omega] at hT
  rw [hT]; simp
theorem sets_stop {P : Pn} {k m : Nat} (h : k = (sets P k).length) (hm : k ≤ m) : sets P m = sets P k := by
  induction hm with
  | refl => rfl
  | step hm ih =>
    rename_i m
    have : k ≤ m := hm
    rw [sets, ih, if_neg (by omega)]
/-- What is answered: none where there are too many states. -/
def Says (P : Pn) (o : Option (List (List Int) × List Int)) : Prop :=
  ∃ k, (sets P k).length ≤ 200 ∧ ((k = (sets P k).length ∧ o = some (rows P k, tags P (sets P k))) ∨ (k < (sets P k).length ∧ 200 < (sets P (k + 1)).length ∧ o = none))
theorem Says.one {P : Pn} {o o' : Option (List (List Int) × List Int)} (h : Says P o) (h' : Says P o') : o = o' := by
  have lt : ∀ {k k' : Nat} {o o' : Option (List (List Int) × List Int)}, k < k' → (sets P k').length ≤ 200 →
      ((k = (sets P k).length ∧ o = some (rows P k, tags P (sets P k))) ∨ (k < (sets P k).length ∧ 200 < (sets P (k + 1)).length ∧ o = none)) →
      ((k' = (sets P k').length ∧ o' = some (rows P k', tags P (sets P k'))) ∨ (k' < (sets P k').length ∧ 200 < (sets P (k' + 1)).length ∧ o' = none)) → False := by
    intro k k' o o' hlt hle h1 h2
    rcases h1 with ⟨a, _⟩ | ⟨_, b, _⟩
    · have e := sets_stop a (Nat.le_of_lt hlt)
      rcases h2 with ⟨c, _⟩ | ⟨c, _⟩ <;> rw [e] at c <;> omega
    · have := sets_len_le P (show k + 1 ≤ k' by omega)
      omega
  obtain ⟨k, h1, h2⟩ := h
  obtain ⟨k', h1', h2'⟩ := h'
  rcases Nat.lt_trichotomy k k' with hk | hk | hk
  · exact (lt hk h1' h2 h2').elim
  · subst hk
    rcases h2 with ⟨a, b⟩ | ⟨a, b, c⟩ <;> rcases h2' with ⟨a', b'⟩ | ⟨a', b', c'⟩
    · rw [b, b']
    · omega
    · omega
    · rw [c, c']
  · exact (lt hk h1 h2' h2).elim
end Dm
end Go.Proofs.Ytfelikfppjlcmaa

/-
  Several makes in one drawn region: in whatever order, all of them are made. (A helper text; it claims nothing of the program.)
-/
namespace Go.Proofs.Ytfelikfppjlcmaa
set_option linter.unusedVariables false
open Go.ChangeShapes Go.WideShapes Go.ChangeAt Go.RowKit

/-- One that makes a block: its number in the region, its slot, the value, the block, what is owned. -/
structure Mk where
  i : Nat
  d : Nat
  val : Nat → Value
  obj : Obj
  asrt : Nat → Asrt
namespace Mk
def asr (x : Mk × Nat) : Asrt := x.1.asrt x.2
def puts (a : Act) (l : List (Mk × Nat)) : Act := l.foldl (fun a x => a.put (some x.1.d) (x.1.val x.2)) a
/-- It does so whatever of the others is made already. -/
structure Does (P : Program) (ops : Array Oper) (all : List Mk) (a : Act) (m : Mk) : Prop where
  run : ∃ o, ops[m.i]? = some o ∧ o.dst = some m.d ∧ o.guard = none ∧ ∀ b : Act, (∀ s, (∀ m' ∈ all, m'.d ≠ s) → b.eval (.tmp s) = a.eval (.tmp s)) → ∀ w : World, (execOp b.eval o).run P w = .ok (.value (m.val w.heap.size)) (w.alloc m.obj)
  ok : ∀ w : World, (m.asrt w.heap.size).ok (w.alloc m.obj)
  fp : ∀ g, (m.asrt g).fp = [g]
/-- make([]T, n) -/
def make (i d n : Nat) (e : TypeId) (z : Value) : Mk := ⟨i, d, fun g => .slice (some ⟨g, 0, none⟩) n n, .cells (madeCells #[z] n) e, fun g => aOwn e 1 (.slice (some ⟨g, 0, none⟩) n n) (List.replicate n z)⟩
/-- A new block. -/
def cel (i d : Nat) (T : TypeId) (cs : Array Value) : Mk := ⟨i, d, fun g => .pointer (some ⟨g, 0, none⟩), .cells cs T, fun g => aCel g T cs⟩
def lst (l0 : Array Bool) (is : List Nat) : Array Bool := is.foldl (fun l i => l.setIfInBounds i true) l0
def subs : List Nat → List (List Nat)
  | [] => [[]]
  | x :: r => subs r ++ (subs r).map (x :: ·)
theorem filter_subs (p : Nat → Bool) (l : List Nat) : l.filter p ∈ subs l := by
  induction l with
  | nil => simp [subs]
  | cons x r ih =>
    rw [subs, List.mem_append, List.filter_cons]
    split
    · exact .inr (List.mem_map.2 ⟨_, ih, rfl⟩)
    · exact .inl ih
/-- Whatever is made already, those that may come up are the others; but where one stops. -/
def chk (ops : Array Oper) (l0 : Array Bool) (is : List Nat) (stops : List (List Nat)) : Bool :=
  stops.contains is && (subs is).all fun js => stops.contains js || decide (Region.ready .any ops (lst l0 js) = is.filter (fun i => !js.contains i))
theorem lst_perm {l0 : Array Bool} {is js : List Nat} (h : is.Perm js) : lst l0 is = lst l0 js := by
  unfold lst
  refine h.foldl_eq' (fun x _ y _ z => ?_) l0
  by_cases e : x = y
  · subst e; rfl
  · exact Array.setIfInBounds_comm _ _ e
theorem perm_lift {α β : Type} (f : α → β) : ∀ {m : List β} {l : List α}, (l.map f).Perm m → ∃ l', l.Perm l' ∧ l'.map f = m := by
  intro m
  induction m with
  | nil => intro l h; have := h.length_eq; simp at this; subst this; exact ⟨[], .nil, rfl⟩
  | cons x r ih =>
    intro l h
    obtain ⟨y, hy, rfl⟩ := List.mem_map.1 (h.mem_iff.2 (.head r))
    obtain ⟨s, t, rfl⟩ := List.append_of_mem hy
    have h2 : ((s ++ t).map f).Perm r := by
      have h3 : (f y :: (s ++ t).map f).Perm (f y :: r) := by
        refine List.Perm.trans ?_ h
        have := (List.perm_middle (l₁ := s) (l₂ := t) (a := y)).symm.map f
        simpa using this
      exact h3.cons_inv
    obtain ⟨l', h4, h5⟩ := ih h2
    exact ⟨y :: l', List.perm_middle.trans (h4.cons y), by rw [List.map_cons, h5]⟩
theorem inj_of {α β : Type} (f : α → β) {l : List α} (h : (l.map f).Nodup) {x y : α} (hx : x ∈ l) (hy : y ∈ l) (he : f x = f y) : x = y := by
  induction l with
  | nil => cases hx
  | cons a r ih =>
    rw [List.map_cons, List.nodup_cons] at h
    rcases List.mem_cons.1 hx with hx2 | hx2
    · rcases List.mem_cons.1 hy with hy2 | hy2
      · rw [hx2, hy2]
      · rw [hx2] at he
        exact absurd (List.mem_map.2 ⟨y, hy2, he.symm⟩) h.1
    · rcases List.mem_cons.1 hy with hy2 | hy2
      · rw [hy2] at he
        exact absurd (List.mem_map.2 ⟨x, hx2, he⟩) h.1
      · exact ih h.2 hx2 hy2
theorem puts_perm {a : Act} {l l' : List (Mk × Nat)} (h : l.Perm l') (hd : (l.map (·.1.d)).Nodup) : puts a l = puts a l' := by
  unfold puts
  refine h.foldl_eq' (fun x hx y hy z => ?_) a
  by_cases e : x.1.d = y.1.d
  · have := inj_of (fun x : Mk × Nat => x.1.d) hd hx hy e
    subst this; rfl
  · unfold Act.put
    simp only
    rw [Array.setIfInBounds_comm _ _ e]
theorem puts_eval {s : Nat} : ∀ {l : List (Mk × Nat)} {a : Act}, (∀ x ∈ l, x.1.d ≠ s) → (puts a l).eval (.tmp s) = a.eval (.tmp s) := by
  intro l
  induction l with
  | nil => intro a _; rfl
  | cons x r ih =>
    intro a h
    have h1 := ih (a := a.put (some x.1.d) (x.1.val x.2)) (fun y hy => h y (.tail _ hy))
    have h2 : (a.put (some x.1.d) (x.1.val x.2)).eval (.tmp s) = a.eval (.tmp s) := by
      have := h x (.head _)
      simp [Act.put, Act.eval, Array.getElem?_setIfInBounds_ne this]
    exact h1.trans h2
theorem does_make {P : Program} {ops : Array Oper} {all : List Mk} {a : Act} {i d n s : Nat} {t e : TypeId} {z : Value} {bytes : Nat} {o : Oper} (ho : ops[i]? = some o) (h1 : o.op = Op.makeSlice t (.tmp s) (.tmp s)) (h2 : o.dst = some d) (h3 : o.guard = none) (h4 : P.underlying t = some (.slice e))
    (h5 : (P.info? e).map (fun i => (i.zero, i.size, i.bytes)) = some (some z, 1, bytes)) (h6 : z.cells = #[z]) (h7 : 0 < bytes) (hn : (bytes : Int) * n ≤ 140737488355328) (h9 : a.eval (.tmp s) = .int .i64 (n : Int)) (h11 : (all.map (·.d)).contains s = false) : Does P ops all a (make i d n e z) := by
  have h10 : ∀ m' ∈ all, m'.d ≠ s := fun m' hm e => by
    rw [← Bool.not_eq_true, List.contains_iff_mem] at h11
    exact h11 (List.mem_map.2 ⟨m', hm, e⟩)
  have hn' : bytes * n ≤ 140737488355328 := by rw [← Int.natCast_mul] at hn; omega
  have hle : n ≤ bytes * n := Nat.le_mul_of_pos_left n h7
  refine ⟨⟨o, ho, h2, h3, fun b hb w => ?_⟩, fun w => own_mk w e z h6 n (by unfold maxLen; omega), fun g => rfl⟩
  have hrun := run_make_row' (P := P) t e z bytes h4 h5 h6 .i64 .i64 n (by omega) (by omega) w
  have hev := (hb s h10).trans h9
  simp [execOp, h1, hev, hrun, Result.andThen, make]
theorem does_cel {P : Program} {ops : Array Oper} {all : List Mk} {a : Act} {i d : Nat} {T : TypeId} {cs : Array Value} {o : Oper} (ho : ops[i]? = some o) (h2 : o.dst = some d) (h3 : o.guard = none) (hr : ∀ b : Act, ∀ w : World, (execOp b.eval o).run P w = .ok (.value (.pointer (some ⟨w.heap.size, 0, none⟩))) (w.alloc (.cells cs T))) : Does P ops all a (cel i d T cs) :=
  ⟨⟨o, ho, h2, h3, fun b _ w => hr b w⟩, fun w => heap_alloc_new _ _, fun g => rfl⟩
end Mk

theorem wpAny_makes {P : Program} {w0 : World} {μ : List Asrt} {ops : Array Oper} {Q : Exit → Act → World → Prop} (all : List Mk) (stops : List (List Nat)) (fuel : Nat) (l0 : Array Bool) (a : Act)
    (hck : Mk.chk ops l0 (all.map (·.i)) stops = true) (hdn : (all.map (·.d)).Nodup) (hin : (all.map (·.i)).Nodup) (hop : ∀ m ∈ all, Mk.Does P ops all a m)
    (hK : ∀ js ∈ stops, ∀ (k : Nat) (ds : List (Mk × Nat)), ds.map (·.1) = all.filter (fun m => js.contains m.i) → ds.length + k = all.length → ∀ w', St w0 w' (ds.map Mk.asr ++ μ) → wpAny P .any ops Q (k + fuel) (Mk.lst l0 (ds.map (·.1.i))) (Mk.puts a ds) w') :
    ∀ (k : Nat) (pend : List Mk) (done : List (Mk × Nat)) (w : World), pend.length = k → (done.map (·.1) ++ pend).Perm all → St w0 w (done.map Mk.asr ++ μ) → wpAny P .any ops Q (k + fuel) (Mk.lst l0 (done.map (·.1.i))) (Mk.puts a done) w := by
  unfold Mk.chk at hck
  rw [Bool.and_eq_true, List.all_eq_true] at hck
  obtain ⟨hfin, hck⟩ := hck
  intro k
  induction k with
  | zero =>
    intro pend done w hl hp hst
    have : pend = [] := List.eq_nil_of_length_eq_zero hl
    subst this
    rw [List.append_nil] at hp
    obtain ⟨ds, h1, h2⟩ := Mk.perm_lift (fun x : Mk × Nat => x.1) hp
    have hfa : all.filter (fun m => (all.map (·.i)).contains m.i) = all := by
      refine List.filter_eq_self.2 (fun m hm => ?_)
      rw [List.contains_iff_mem]
      exact List.mem_map.2 ⟨m, hm, rfl⟩
    have h3 := hK (all.map (·.i)) (by rw [List.contains_iff_mem] at hfin; exact hfin) 0 ds (by rw [hfa]; exact h2) (by have := congrArg List.length h2; simpa using this) w (hst.perm ((h1.map _).append_right μ))
    have hdd : (done.map (·.1.d)).Nodup := by
      have := (hp.map (·.d)).nodup_iff.2 hdn
      rw [List.map_map] at this
      exact this
    rw [Mk.puts_perm h1 hdd, Mk.lst_perm (h1.map (·.1.i))]
    exact h3
  | succ k ih =>
    intro pend done w hl hp hst
    obtain ⟨m0, r0, rfl⟩ : ∃ m r, pend = m :: r := by cases pend with | nil => simp at hl | cons m r => exact ⟨m, r, rfl⟩
    have hip := (hp.map (·.i)).nodup_iff.2 hin
    have hdp := (hp.map (·.d)).nodup_iff.2 hdn
    rw [List.map_append, List.map_map] at hip hdp
    have hgen : ∀ (p : Mk → Bool), (∀ x ∈ done, p x.1 = true) → (∀ m ∈ m0 :: r0, p m = false) → (all.filter p).Perm (done.map (·.1)) := by
      intro p h1 h2
      refine (hp.filter p).symm.trans ?_
      rw [List.filter_append]
      have h3 : (done.map (·.1)).filter p = done.map (·.1) := by
        refine List.filter_eq_self.2 (fun m hm => ?_)
        obtain ⟨x, hx, rfl⟩ := List.mem_map.1 hm
        exact h1 x hx
      have h4 : (m0 :: r0).filter p = [] := by
        rw [List.filter_eq_nil_iff]
        intro m hm
        rw [h2 m hm]; simp
      rw [h3, h4, List.append_nil]
    have hdc : ∀ x ∈ done, (done.map (·.1.i)).contains x.1.i = true := fun x hx => by rw [List.contains_iff_mem]; exact List.mem_map.2 ⟨x, hx, rfl⟩
    have hpc : ∀ m ∈ m0 :: r0, (done.map (·.1.i)).contains m.i = false := fun m hm => by
      rw [← Bool.not_eq_true, List.contains_iff_mem]
      intro hc
      rw [List.nodup_append] at hip
      exact hip.2.2 m.i hc m.i (List.mem_map.2 ⟨m, hm, rfl⟩) rfl
    have h1 := hck _ (Mk.filter_subs (fun i => (done.map (·.1.i)).contains i) (all.map (·.i)))
    have hfm : (all.map (·.i)).filter (fun i => (done.map (·.1.i)).contains i) = (all.filter (fun m => (done.map (·.1.i)).contains m.i)).map (·.i) := by rw [List.filter_map]; rfl
    have hperm : ((all.map (·.i)).filter (fun i => (done.map (·.1.i)).contains i)).Perm (done.map (·.1.i)) := by
      rw [hfm]
      have := (hgen _ hdc hpc).map (·.i)
      rw [List.map_map] at this
      exact this
    rw [Bool.or_eq_true, decide_eq_true_eq] at h1
    rcases h1 with h1 | h1
    · -- here one stops
      have hp1 := hgen (fun m => ((all.map (·.i)).filter (fun i => (done.map (·.1.i)).contains i)).contains m.i) (fun x hx => by
        rw [List.contains_iff_mem, hperm.mem_iff]
        exact List.mem_map.2 ⟨x, hx, rfl⟩) (fun m hm => by
        have := hpc m hm
        rw [← Bool.not_eq_true, List.contains_iff_mem] at this ⊢
        rw [hperm.mem_iff]
        exact this)
      obtain ⟨ds, h2, h3⟩ := Mk.perm_lift (fun x : Mk × Nat => x.1) hp1.symm
      have hdd : (done.map (·.1.d)).Nodup := by
        rw [List.nodup_append] at hdp
        exact hdp.1
      rw [Mk.puts_perm h2 hdd, Mk.lst_perm (h2.map (·.1.i))]
      refine hK _ (by rw [List.contains_iff_mem] at h1; exact h1) (k + 1) ds h3 ?_ w (hst.perm ((h2.map _).append_right μ))
      have e1 := hp.length_eq
      have e2 := h2.length_eq
      rw [List.length_append, List.length_map] at e1
      omega
    · rw [Mk.lst_perm hperm] at h1
      have hready : Region.ready .any ops (Mk.lst l0 (done.map (·.1.i))) = (all.map (·.i)).filter (fun i => !(done.map (·.1.i)).contains i) := by
        rw [h1]
        refine List.filter_congr (fun x hx => ?_)
        congr 1
        rw [Bool.eq_iff_iff, List.contains_iff_mem, List.contains_iff_mem, hperm.mem_iff]
      rw [Nat.succ_add, wpAny, hready]
      refine ⟨fun h0 => ?_, fun i hi => ?_⟩
      · exfalso
        rw [List.filter_eq_nil_iff] at h0
        have hm0 : m0 ∈ all := hp.mem_iff.1 (by simp)
        refine h0 m0.i (List.mem_map.2 ⟨m0, hm0, rfl⟩) ?_
        rw [hpc m0 (.head _)]; rfl
      · rw [List.mem_filter, List.mem_map] at hi
        obtain ⟨⟨m, hm, rfl⟩, hnc⟩ := hi
        rw [Bool.not_eq_true', ← Bool.not_eq_true, List.contains_iff_mem] at hnc
        have hmp : m ∈ m0 :: r0 := by
          rcases List.mem_append.1 (hp.mem_iff.2 hm) with h1 | h1
          · obtain ⟨x, hx, rfl⟩ := List.mem_map.1 h1
            exact absurd (List.mem_map.2 ⟨x, hx, rfl⟩) hnc
          · exact h1
        obtain ⟨s, t, hst2⟩ := List.append_of_mem hmp
        rw [hst2] at hp
        obtain ⟨⟨o, ho, h2, h3, hrun⟩, hok, hfp⟩ := hop m hm
        have hex := hrun (Mk.puts a done) (fun s hs => Mk.puts_eval (fun x hx => hs x.1 (hp.mem_iff.1 (List.mem_append.2 (.inl (List.mem_map.2 ⟨x, hx, rfl⟩)))))) w
        unfold wpOp
        simp only [ho]
        rw [if_pos (by simp [Region.wanted, h3])]
        refine .inl ?_
        unfold Oper.wp
        rw [hex]
        simp only [Oper.upon]
        have hst3 : St w0 (w.alloc m.obj) (Mk.asr (m, w.heap.size) :: (done.map Mk.asr ++ μ)) := by
          refine hst.push ((Below.refl _ _).alloc (Nat.le_refl _) _) (hok w) (fun b hb => ?_) (by show (m.asrt w.heap.size).fp.Nodup; rw [hfp]; simp)
          have hb2 : b ∈ (m.asrt w.heap.size).fp := hb
          rw [hfp] at hb2
          simp at hb2
          subst hb2
          simp
        have h11 := ih (s ++ t) (done ++ [(m, w.heap.size)]) (w.alloc m.obj) (by rw [hst2] at hl; simp at hl ⊢; omega) (by
          refine List.Perm.trans ?_ hp
          rw [List.map_append, List.append_assoc]
          refine List.Perm.append_left _ ?_
          show List.Perm (m :: (s ++ t)) (s ++ m :: t)
          exact List.perm_middle.symm) (by
          refine hst3.perm ?_
          rw [List.map_append, List.append_assoc]
          exact List.perm_middle.symm)
        have h12 : Mk.lst l0 ((done ++ [(m, w.heap.size)]).map (·.1.i)) = (Mk.lst l0 (done.map (·.1.i))).setIfInBounds m.i true := by simp [Mk.lst]
        have h13 : Mk.puts a (done ++ [(m, w.heap.size)]) = (Mk.puts a done).put o.dst (m.val w.heap.size) := by rw [h2]; simp [Mk.puts]
        rw [h12, h13] at h11
        exact h11
/-- All of them, from the start. -/
theorem St.makes {P : Program} {w0 w : World} {μ : List Asrt} {ops : Array Oper} {Q : Exit → Act → World → Prop} (all : List Mk) (stops : List (List Nat)) (fuel : Nat) {m : Nat} {l0 : Array Bool} {a : Act} (h : St w0 w μ) (hm : m = all.length + fuel)
    (hck : Mk.chk ops l0 (all.map (·.i)) stops = true) (hdn : decide (all.map (·.d)).Nodup = true) (hin : decide (all.map (·.i)).Nodup = true) (hop : ∀ m ∈ all, Mk.Does P ops all a m)
    (hK : ∀ js ∈ stops, ∀ (k : Nat) (ds : List (Mk × Nat)), ds.map (·.1) = all.filter (fun m => js.contains m.i) → ds.length + k = all.length → ∀ w', St w0 w' (ds.map Mk.asr ++ μ) → wpAny P .any ops Q (k + fuel) (Mk.lst l0 (ds.map (·.1.i))) (Mk.puts a ds) w') : wpAny P .any ops Q m l0 a w := by
  subst hm
  exact wpAny_makes all stops fuel l0 a hck (of_decide_eq_true hdn) (of_decide_eq_true hin) hop hK all.length all [] w rfl (List.Perm.refl _) h
/-- A list of pairs by its first parts. -/
theorem Mk.split {x : Mk} {r : List Mk} {ds : List (Mk × Nat)} (h : ds.map (·.1) = x :: r) : ∃ g ds', ds = (x, g) :: ds' ∧ ds'.map (·.1) = r := by
  cases ds with
  | nil => cases h
  | cons y ds => rw [List.map_cons, List.cons.injEq] at h; obtain ⟨m, g⟩ := y; obtain ⟨rfl, h2⟩ := h; exact ⟨g, ds, rfl, h2⟩
theorem Mk.done {ds : List (Mk × Nat)} (h : ds.map (·.1) = []) : ds = [] := by simpa using h
end Go.Proofs.Ytfelikfppjlcmaa

/-
  A block written whole, read whole, handed back. (A helper text; it claims nothing of the program.)
-/
namespace Go.Proofs.Ytfelikfppjlcmaa
set_option linter.unusedVariables false
open Go.ChangeShapes Go.WideShapes Go.ChangeAt Go.RowKit

theorem St.setRow {w0 w : World} {μ : List Asrt} {g : Nat} {T : TypeId} {cs : Array Value} (h : St w0 w (aCel g T cs :: μ)) (cs' : Array Value) : St w0 (w.setRow g cs') (aCel g T cs' :: μ) := by
  refine h.upd rfl rfl rfl (by simp) (fun b hb hm => ?_) (setRow_heap _ _ _ _ _ _ (h.ok _ (.head _))) (fun b hb => .inl hb) (by simp [aCel])
  exact setRow_other _ _ _ _ (fun e => hm (by simp [aCel, e]))
/-- A result that lies in a block, and one more beside it. -/
theorem results_row_tmp {P : Program} {fn : Func} {p u : Tmp} {ty : TypeId} (h : fn.results = #[.cell p ty, .tmp u]) (tmps : Array Value) (w : World) (g : Nat) (t : TypeId) (cs : Array Value) (d : TypeDesc)
    (hp : tmps.getD p undef = .pointer (some ⟨g, 0, none⟩)) (hg : w.heap[g]? = some (.cells cs t (0, 0))) (hu : P.underlying ty = some d) (hd : (match d with | .struct _ | .array _ _ => true | _ => false) = true) (hi : (P.info? ty).map (·.size) = some cs.size) :
    (results fn tmps).run P w = .ok (.tuple #[.agg cs, tmps.getD u undef]) w := by
  rw [results_cell_tmp h, hp]
  simp [asAddr, run_loadVar_row w g t ty cs (0, 0) d hg hu hd hi, Result.andThen]
theorem results_row {P : Program} {fn : Func} {p : Tmp} {ty : TypeId} (h : fn.results = #[.cell p ty]) (tmps : Array Value) (w : World) (g : Nat) (t : TypeId) (cs : Array Value) (d : TypeDesc)
    (hp : tmps.getD p undef = .pointer (some ⟨g, 0, none⟩)) (hg : w.heap[g]? = some (.cells cs t (0, 0))) (hu : P.underlying ty = some d) (hd : (match d with | .struct _ | .array _ _ => true | _ => false) = true) (hi : (P.info? ty).map (·.size) = some cs.size) :
    (results fn tmps).run P w = .ok (.agg cs) w := results_cell_row h tmps w g t cs (0, 0) d hp hg hu hd hi
/-- A block written whole. -/
theorem St.rowOp {P : Program} {w0 w : World} {μ : List Asrt} {ops : Array Oper} {rest : List Oper} {o : Oper} {a : Act} {Q : Exit → Act → World → Prop} {T : TypeId} {old : Array Value} (hgd : o.guard = none) (ty : TypeId) (x y : Operand) (ho : o.op = .store ty x y) (g : Nat) (cells : Array Value) (hx : a.eval x = .pointer (some ⟨g, 0, none⟩)) (hy : a.eval y = .agg cells)
    (h : St w0 w (aCel g T old :: μ)) (hi : (P.info? ty).map (·.size) = some cells.size) (hold : old.size = cells.size) (h1 : cells.all (·.oneCell') = true)
    (hK : ∀ w', St w0 w' (aCel g T cells :: μ) → wpList P ops Q rest (a.put o.dst undef) w') : wpList P ops Q (o :: rest) a w :=
  wpList_store_row hgd ty x y ho g cells hx hy T old (h.ok _ (.head _)) hi hold h1 (hK _ (h.setRow cells))
/-- A block read whole. -/
theorem St.rowIn {P : Program} {w0 w : World} {μ : List Asrt} {ops : Array Oper} {rest : List Oper} {o : Oper} {a : Act} {Q : Exit → Act → World → Prop} {T : TypeId} {cs : Array Value} (hgd : o.guard = none) (ty : TypeId) (x : Operand) (ho : o.op = .load ty x) (g : Nat) (hx : a.eval x = .pointer (some ⟨g, 0, none⟩)) (d : TypeDesc)
    (h : St w0 w μ) (i : Nat) (hA : μ[i]? = some (aCel g T cs)) (hu : P.underlying ty = some d) (hd : (match d with | .struct _ | .array _ _ => true | _ => false) = true) (hi : (P.info? ty).map (·.size) = some cs.size)
    (hK : wpList P ops Q rest (a.put o.dst (.agg cs)) w) : wpList P ops Q (o :: rest) a w :=
  wpList_load_row hgd ty x ho g hx T cs (0, 0) d (h.heapAt i hA) hu hd hi hK
/-- make([]T, n) at a step of a region that draws its order. -/
theorem St.stepMake {P : Program} {w0 w : World} {μ : List Asrt} {ops : Array Oper} {o : Oper} {a : Act} {K : Act → World → Prop} {Q : Exit → Act → World → Prop} {EE : Prop} {t e : TypeId} {bytes : Nat} {z : Value} (hgd : o.guard = none) (l : Operand) (hop : o.op = Op.makeSlice t l l)
    (ht : P.underlying t = some (.slice e)) (hi : (P.info? e).map (fun i => (i.zero, i.size, i.bytes)) = some (some z, 1, bytes)) (hz : z.cells = #[z]) (h : St w0 w μ) (n : Nat) (hl : a.eval l = .int .i64 (n : Int)) (hn : (bytes : Int) * n ≤ 140737488355328) (hb : 0 < bytes)
    (hK : ∀ g w', St w0 w' (aOwn e 1 (.slice (some ⟨g, 0, none⟩) n n) (List.replicate n z) :: μ) → K (a.put o.dst (.slice (some ⟨g, 0, none⟩) n n)) w') : if Region.wanted o (yielded ops a.tmps) = true then Oper.wp P o a w K Q else EE := by
  have hw : Region.wanted o (yielded ops a.tmps) = true := by simp [Region.wanted, hgd]
  rw [if_pos hw]
  have hn' : bytes * n ≤ 140737488355328 := by rw [← Int.natCast_mul] at hn; omega
  have hle : n ≤ bytes * n := Nat.le_mul_of_pos_left n hb
  have hrun := run_make_row' (P := P) t e z bytes ht hi hz .i64 .i64 n (by omega) (by omega) w
  unfold Oper.wp execOp
  simp only [hop, hl, Sem.run_bind, hrun, Result.andThen_ok, Sem.run_pure]
  refine hK w.heap.size _ ?_
  refine h.push ((Below.refl _ _).alloc (Nat.le_refl _) _) (own_mk w e z hz n (by unfold maxLen; omega)) (fun b hb => ?_) (by simp [aOwn, Value.ownBlock])
  simp [aOwn, Value.ownBlock] at hb
  subst hb
  simp
/-- A new block at such a step. -/
theorem St.stepNew {P : Program} {w0 w : World} {μ : List Asrt} {ops : Array Oper} {o : Oper} {a : Act} {K : Act → World → Prop} {Q : Exit → Act → World → Prop} {EE : Prop} {T : TypeId} {cs : Array Value} (hgd : o.guard = none) (hr : ∀ u : World, (execOp a.eval o).run P u = .ok (.value (.pointer (some ⟨u.heap.size, 0, none⟩))) (u.alloc (.cells cs T)))
    (h : St w0 w μ) (hK : ∀ g w', St w0 w' (aCel g T cs :: μ) → K (a.put o.dst (.pointer (some ⟨g, 0, none⟩))) w') : if Region.wanted o (yielded ops a.tmps) = true then Oper.wp P o a w K Q else EE := by
  have hw : Region.wanted o (yielded ops a.tmps) = true := by simp [Region.wanted, hgd]
  rw [if_pos hw]
  unfold Oper.wp
  rw [hr w]
  exact hK _ _ (h.alloc cs T)
/-- A block written whole at such a step. -/
theorem St.stepRow {P : Program} {w0 w : World} {μ : List Asrt} {ops : Array Oper} {o : Oper} {a : Act} {K : Act → World → Prop} {Q : Exit → Act → World → Prop} {EE : Prop} {T : TypeId} {old : Array Value} (hgd : o.guard = none) (ty : TypeId) (x y : Operand) (ho : o.op = .store ty x y) (g : Nat) (cells : Array Value) (hx : a.eval x = .pointer (some ⟨g, 0, none⟩)) (hy : a.eval y = .agg cells)
    (h : St w0 w (aCel g T old :: μ)) (hi : (P.info? ty).map (·.size) = some cells.size) (hold : old.size = cells.size) (h1 : cells.all (·.oneCell') = true)
    (hK : ∀ w', St w0 w' (aCel g T cells :: μ) → K (a.put o.dst undef) w') : if Region.wanted o (yielded ops a.tmps) = true then Oper.wp P o a w K Q else EE := by
  have hw : Region.wanted o (yielded ops a.tmps) = true := by simp [Region.wanted, hgd]
  rw [if_pos hw]
  exact wp_store_row ty x y ho g cells hx hy T old (h.ok _ (.head _)) hi hold h1 (hK _ (h.setRow cells))
end Go.Proofs.Ytfelikfppjlcmaa

/-
  Classes as four words. (Plain, but for how they lie in memory; nothing of the program is claimed.)
-/
namespace Go.Proofs.Ytfelikfppjlcmaa
set_option linter.unusedVariables false
set_option linter.unusedSimpArgs false
open Go.ChangeShapes Go.WideShapes Go.ChangeAt Go.RowKit

namespace Cs
def wV (n : Nat) : Value := .int .u64 (n : Int)
def clA (ws : List Nat) : Array Value := (ws.map wV).toArray
def clV (ws : List Nat) : Value := .agg (clA ws)
/-- The class of the bytes for which p holds. -/
def of (p : Nat → Bool) : List Nat := Dm.ofL ((List.range 256).filter p)
theorem mem_of {p : Nat → Bool} {x : Nat} (hx : x < 256) : Dm.mem (of p) x = p x := by
  unfold of
  rw [Dm.mem_ofL (fun y hy => List.mem_range.1 (List.mem_filter.1 hy).1) hx, Bool.eq_iff_iff, List.contains_iff_mem, List.mem_filter]
  exact ⟨fun h => h.2, fun h => ⟨List.mem_range.2 hx, h⟩⟩
theorem ok_of (p : Nat → Bool) : Dm.Ok4 (of p) := Dm.ok_ofL fun y hy => List.mem_range.1 (List.mem_filter.1 hy).1
theorem of_mem {ws : List Nat} (h : Dm.Ok4 ws) : of (Dm.mem ws) = ws := Dm.ext (ok_of _) h fun x hx => mem_of hx
theorem eq_of {ws : List Nat} (h : Dm.Ok4 ws) {p : Nat → Bool} (hp : ∀ x, x < 256 → Dm.mem ws x = p x) : ws = of p := Dm.ext h (ok_of _) fun x hx => by rw [hp x hx, mem_of hx]
theorem of_congr {p q : Nat → Bool} (h : ∀ x, x < 256 → p x = q x) : of p = of q := eq_of (ok_of p) fun x hx => by rw [mem_of hx, h x hx]
theorem of_put {p q : Nat → Bool} {b : Nat} (hb : b < 256) (h : ∀ x, x < 256 → q x = (p x || decide (b = x))) : Dm.put (of p) b = of q := eq_of (Dm.ok_put (ok_of p) hb) fun x hx => by rw [Dm.mem_put (ok_of p) hb hx, mem_of hx, h x hx]
theorem of_false : of (fun _ => false) = Dm.zero := (eq_of Dm.ok_zero fun x _ => Dm.mem_zero x).symm
theorem clA_get {ws : List Nat} {j : Nat} (h : j < ws.length) : (clA ws)[j]? = some (wV (ws.getD j 0)) := by
  unfold clA
  rw [List.getElem?_toArray, List.getElem?_map, List.getElem?_eq_getElem h]
  simp [List.getD, List.getElem?_eq_getElem h]
theorem clA_set {ws : List Nat} {j n : Nat} : (clA ws).setIfInBounds j (wV n) = clA (ws.set j n) := by
  apply Array.toList_inj.1
  simp [clA, List.map_set]
theorem clA_size {ws : List Nat} (h : Dm.Ok4 ws) : (clA ws).size = 4 := by simp [clA, h.len]
theorem clA_one (ws : List Nat) : (clA ws).all (·.oneCell') = true := by
  rw [← Array.all_toList]
  simp only [clA, List.all_map]
  exact List.all_eq_true.2 (fun _ _ => rfl)
theorem clInfo : (Try.prog.info? 24).map (·.size) = some 4 := by kernel_rfl
theorem clV_inj {a b : List Nat} (h : clV a = clV b) : a = b := by
  simp only [clV, clA, Value.agg.injEq] at h
  have h2 := congrArg Array.toList h
  have h3 := congrArg (List.map (fun v : Value => match v with | .int _ n => n.toNat | _ => 0)) h2
  simpa [Function.comp_def, wV] using h3
theorem okFour {ws : List Nat} (h : Dm.Ok4 ws) : ∃ a b c d, ws = [a, b, c, d] := by
  have := h.len
  match ws, this with
  | [a, b, c, d], _ => exact ⟨a, b, c, d, rfl⟩
/-- What comes in. -/
theorem of_row {cs : List Value} {c : List Int} (h1 : cs = c.map (Value.int .u64)) (h2 : c.length = 4) (h3 : ∀ x ∈ c, (Lit.int .u64 x).wf = true) : ∃ ws, Dm.Ok4 ws ∧ cs = ws.map wV ∧ c = ws.map fun n : Nat => (n : Int) := by
  have hb : ∀ x ∈ c, 0 ≤ x ∧ x < 18446744073709551616 := fun x hx => by
    have := h3 x hx
    simp [Lit.wf, IntKind.min, IntKind.max, IntKind.signed, IntKind.bits] at this
    omega
  have e : c = (c.map Int.toNat).map fun n : Nat => (n : Int) := by
    rw [List.map_map]
    conv => lhs; rw [← List.map_id c]
    apply List.map_congr_left
    intro x hx
    have := hb x hx
    simp only [Function.comp, id]
    omega
  refine ⟨c.map Int.toNat, ⟨by simp [h2], fun j => ?_⟩, ?_, e⟩
  · by_cases hj : j < c.length
    · have : (c.map Int.toNat).getD j 0 = (c[j]).toNat := by simp [List.getD, List.getElem?_eq_getElem hj]
      rw [this]
      have h4 := hb _ (List.getElem_mem hj)
      have h5 : ((c[j].toNat : Nat) : Int) < ((2 ^ 64 : Nat) : Int) := by
        rw [Int.toNat_of_nonneg h4.1]; exact h4.2
      exact Int.ofNat_lt.1 h5
    · rw [List.getD_eq_getElem?_getD, List.getElem?_eq_none (by simpa using hj)]
      exact Nat.two_pow_pos 64
  · rw [h1]
    conv => lhs; rw [e]
    rw [List.map_map]; rfl
theorem has_mem {ws : List Nat} (b : Nat) : Pl.has (ws.map fun n : Nat => (n : Int)) b = Dm.mem ws b := by
  have e : (ws.map fun n : Nat => (n : Int)).getD (b / 64) 0 = ((ws.getD (b / 64) 0 : Nat) : Int) := by
    by_cases h : b / 64 < ws.length
    · simp [List.getD, List.getElem?_eq_getElem h]
    · simp [List.getD, List.getElem?_eq_none (Nat.le_of_not_lt h)]
  unfold Pl.has Dm.mem
  rw [e, Int.toNat_natCast, Nat.testBit_eq_decide_div_mod_eq]
theorem and63 (n : Nat) : bits .and .i64 (n : Int) 63 = ((n % 64 : Nat) : Int) := by
  have h63 : (BitVec.ofInt 64 63).toNat = 2 ^ 6 - 1 := by decide
  have key : (BitVec.ofInt 64 (n : Int) &&& BitVec.ofInt 64 63).toNat = ((n : Int) % ((2 ^ 64 : Nat) : Int)).toNat % 2 ^ 6 := by
    rw [BitVec.toNat_and, BitVec.toNat_ofInt, h63, Nat.and_two_pow_sub_one_eq_mod]
  show IntKind.i64.wrap ((BitVec.ofInt 64 (n : Int) &&& BitVec.ofInt 64 63).toNat : Nat) = _
  rw [key, IntKind.wrap_i64]
  omega
/-! Two classes, word by word. -/
def zip (f : Nat → Nat → Nat) (a b : List Nat) : List Nat := List.zipWith f a b
theorem zip_get {f : Nat → Nat → Nat} {a b : List Nat} (ha : a.length = 4) (hb : b.length = 4) {j : Nat} (hj : j < 4) : (zip f a b).getD j 0 = f (a.getD j 0) (b.getD j 0) := by
  unfold zip
  rw [List.getD_eq_getElem?_getD, List.getElem?_zipWith]
  simp [List.getD, List.getElem?_eq_getElem (by omega : j < a.length), List.getElem?_eq_getElem (by omega : j < b.length)]
theorem zip_len {f : Nat → Nat → Nat} {a b : List Nat} (ha : a.length = 4) (hb : b.length = 4) : (zip f a b).length = 4 := by simp [zip, ha, hb]
theorem zip_ok {f : Nat → Nat → Nat} {a b : List Nat} (ha : Dm.Ok4 a) (hb : Dm.Ok4 b) (hf : ∀ x y, x < 2 ^ 64 → y < 2 ^ 64 → f x y < 2 ^ 64) : Dm.Ok4 (zip f a b) := by
  refine ⟨zip_len ha.len hb.len, fun j => ?_⟩
  by_cases hj : j < 4
  · rw [zip_get ha.len hb.len hj]; exact hf _ _ (ha.lt j) (hb.lt j)
  · rw [List.getD_eq_getElem?_getD, List.getElem?_eq_none (by rw [zip_len ha.len hb.len]; omega)]
    exact Nat.two_pow_pos 64
theorem or_eq {a b : List Nat} (ha : Dm.Ok4 a) (hb : Dm.Ok4 b) : zip (· ||| ·) a b = of (fun x => Dm.mem a x || Dm.mem b x) := by
  refine eq_of (zip_ok ha hb fun x y hx hy => Nat.or_lt_two_pow hx hy) fun x hx => ?_
  unfold Dm.mem
  rw [zip_get ha.len hb.len (by omega), Nat.testBit_or]
theorem and_eq {a b : List Nat} (ha : Dm.Ok4 a) (hb : Dm.Ok4 b) : zip (· &&& ·) a b = of (fun x => Dm.mem a x && Dm.mem b x) := by
  refine eq_of (zip_ok ha hb fun x y hx hy => Nat.and_lt_two_pow _ hy) fun x hx => ?_
  unfold Dm.mem
  rw [zip_get ha.len hb.len (by omega), Nat.testBit_and]
def inv (a : List Nat) : List Nat := a.map fun x => 18446744073709551615 - x
theorem inv_get {a : List Nat} (ha : a.length = 4) {j : Nat} (hj : j < 4) : (inv a).getD j 0 = 18446744073709551615 - a.getD j 0 := by
  unfold inv
  simp [List.getD, List.getElem?_eq_getElem (by omega : j < a.length)]
theorem inv_eq {a : List Nat} (ha : Dm.Ok4 a) : inv a = of (fun x => !Dm.mem a x) := by
  refine eq_of ⟨by simp [inv, ha.len], fun j => ?_⟩ fun x hx => ?_
  · by_cases hj : j < 4
    · rw [inv_get ha.len hj]
      exact Nat.lt_of_le_of_lt (Nat.sub_le _ _) (by decide)
    · rw [List.getD_eq_getElem?_getD, List.getElem?_eq_none (by simp [inv, ha.len]; omega)]
      exact Nat.two_pow_pos 64
  · unfold Dm.mem
    rw [inv_get ha.len (by omega), show 18446744073709551615 = 2 ^ 64 - 1 by decide, show 2 ^ 64 - 1 - a.getD (x / 64) 0 = 2 ^ 64 - (a.getD (x / 64) 0 + 1) by omega, Nat.testBit_two_pow_sub_succ (ha.lt _)]
    simp; omega
/-- The words while the first i are turned. -/
def upto (a z : List Nat) (i : Nat) : List Nat := z.take i ++ a.drop i
theorem upto_zero (a z : List Nat) : upto a z 0 = a := by simp [upto]
theorem upto_all {a z : List Nat} (ha : a.length = 4) (hz : z.length = 4) : upto a z 4 = z := by simp [upto, ← ha]; rw [ha, ← hz, List.take_length]
theorem upto_len {a z : List Nat} (ha : a.length = 4) (hz : z.length = 4) {i : Nat} (hi : i ≤ 4) : (upto a z i).length = 4 := by simp [upto, ha, hz]; omega
theorem upto_get {a z : List Nat} (ha : a.length = 4) (hz : z.length = 4) {i : Nat} (hi : i < 4) : (upto a z i).getD i 0 = a.getD i 0 := by
  match a, ha, z, hz, i, hi with
  | [_, _, _, _], _, [_, _, _, _], _, 0, _ => rfl
  | [_, _, _, _], _, [_, _, _, _], _, 1, _ => rfl
  | [_, _, _, _], _, [_, _, _, _], _, 2, _ => rfl
  | [_, _, _, _], _, [_, _, _, _], _, 3, _ => rfl
theorem upto_set {a z : List Nat} (ha : a.length = 4) (hz : z.length = 4) {i : Nat} (hi : i < 4) : (upto a z i).set i (z.getD i 0) = upto a z (i + 1) := by
  match a, ha, z, hz, i, hi with
  | [_, _, _, _], _, [_, _, _, _], _, 0, _ => rfl
  | [_, _, _, _], _, [_, _, _, _], _, 1, _ => rfl
  | [_, _, _, _], _, [_, _, _, _], _, 2, _ => rfl
  | [_, _, _, _], _, [_, _, _, _], _, 3, _ => rfl
theorem at4 {w0 w : World} {μ : List Asrt} {g : Nat} {T : TypeId} {a b c d : Nat} (h : St w0 w μ) (i : Nat) (hA : μ[i]? = some (aCel g T (clA [a, b, c, d]))) :
    w.cell? ⟨g, 0, none⟩ = some (.int .u64 a) ∧ w.cell? ⟨g, 1, none⟩ = some (.int .u64 b) ∧ w.cell? ⟨g, 2, none⟩ = some (.int .u64 c) ∧ w.cell? ⟨g, 3, none⟩ = some (.int .u64 d) :=
  ⟨(h.nth i hA).celAt rfl, (h.nth i hA).celAt rfl, (h.nth i hA).celAt rfl, (h.nth i hA).celAt rfl⟩
end Cs
end Go.Proofs.Ytfelikfppjlcmaa

/-
  Blocks of four cells. (A helper text; it claims nothing of the program.)
-/
namespace Go.Proofs.Ytfelikfppjlcmaa
set_option linter.unusedVariables false
open Go.ChangeShapes Go.WideShapes Go.ChangeAt Go.RowKit

theorem St.at4 {w0 w : World} {μ : List Asrt} {g : Nat} {T : TypeId} {v0 v1 v2 v3 : Value} (h : St w0 w μ) (i : Nat) (hA : μ[i]? = some (aCel g T #[v0, v1, v2, v3])) : w.cell? ⟨g, 0, none⟩ = some v0 ∧ w.cell? ⟨g, 1, none⟩ = some v1 ∧ w.cell? ⟨g, 2, none⟩ = some v2 ∧ w.cell? ⟨g, 3, none⟩ = some v3 :=
  ⟨(h.nth i hA).celAt rfl, (h.nth i hA).celAt rfl, (h.nth i hA).celAt rfl, (h.nth i hA).celAt rfl⟩
theorem St.cel4 {w0 w : World} {μ : List Asrt} {g : Nat} {T : TypeId} {v0 v1 v2 v3 : Value} (h : St w0 w (aCel g T #[v0, v1, v2, v3] :: μ)) :
    w.cell? ⟨g, 0, none⟩ = some v0 ∧ w.cell? ⟨g, 1, none⟩ = some v1 ∧ w.cell? ⟨g, 2, none⟩ = some v2 ∧ w.cell? ⟨g, 3, none⟩ = some v3 ∧ w.frozen? ⟨g, 0, none⟩ = false ∧ w.frozen? ⟨g, 1, none⟩ = false ∧ w.frozen? ⟨g, 2, none⟩ = false ∧ w.frozen? ⟨g, 3, none⟩ = false :=
  ⟨h.celAt rfl, h.celAt rfl, h.celAt rfl, h.celAt rfl, h.celFree 0, h.celFree 1, h.celFree 2, h.celFree 3⟩
end Go.Proofs.Ytfelikfppjlcmaa

/-
  Regular expressions: what is wrong with one; how one lies in memory. (Plain functions; nothing of the program is claimed.)
-/
namespace Go.Proofs.Ytfelikfppjlcmaa
set_option linter.unusedVariables false
open Go.ChangeShapes Go.WideShapes Go.ChangeAt Go.RowKit

namespace Rx
def nil : Rx := .mk 0 [] []
def ws (t : Rx) : List Nat := t.cls.map Int.toNat
def cel (t : Rx) (vk : Value) : List Value := .int .i64 t.kind :: ((ws t).map Cs.wV ++ [vk])
theorem ws_ok {t : Rx} (h : ClsOk t.cls) : Dm.Ok4 (ws t) ∧ t.cls.map (Value.int .u64) = (ws t).map Cs.wV := by
  obtain ⟨ws', h1, h2, h3⟩ := Cs.of_row (cs := t.cls.map (Value.int .u64)) rfl h.1 h.2
  have e : ws t = ws' := by
    unfold ws
    rw [h3, List.map_map]
    conv => rhs; rw [← List.map_id ws']
    exact List.map_congr_left fun x _ => by simp
  rw [e]
  exact ⟨h1, h2⟩
theorem opened {n : Nat} {F : Nat → Prop} {w : World} {cs : List Value} {t : Rx} (h : (enc n).R F w cs t) : ∃ m, n = m + 1 ∧ ∃ vk, cs = cel t vk ∧ (-9223372036854775808 ≤ t.kind ∧ t.kind ≤ 9223372036854775807) ∧ Dm.Ok4 (ws t) ∧ ((enc m).sl 64).R F w [vk] t.kids := by
  cases n with
  | zero => exact h.elim
  | succ m =>
    obtain ⟨c1, c2, rfl, ⟨rfl, h1⟩, c3, c4, rfl, ⟨rfl, h2, h2'⟩, h3⟩ := h
    have h4 := h3
    obtain ⟨ao, b, off, cap, rfl, _⟩ := h4
    have hw := ws_ok (t := t) ⟨h2, h2'⟩
    refine ⟨m, rfl, _, ?_, wf64 h1, hw.1, h3⟩
    show .int .i64 t.kind :: (t.cls.map (Value.int .u64) ++ [_]) = _
    rw [hw.2]; rfl
theorem kidsAt {n : Nat} {F : Nat → Prop} {w : World} {v : Value} {ks : List Rx} (h : ((enc n).sl 64).R F w [v] ks) :
    ∃ (ao : Option Addr) (b off cap : Nat), v = .slice ao ks.length cap ∧ (ks.length : Int) * 64 ≤ 140737488355328 ∧ (0 < ks.length → ao = some ⟨b, off, none⟩ ∧ b < w.heap.size ∧ F b) ∧
      ∀ i, i < ks.length → ∃ a0 a1 a2 a3 a c, ws (ks.getD i nil) = [a0, a1, a2, a3] ∧ w.cell? ⟨b, off + i * 6, none⟩ = some (.int .i64 (ks.getD i nil).kind) ∧ w.cell? ⟨b, off + i * 6 + 1, none⟩ = some (.int .u64 a0) ∧ w.cell? ⟨b, off + i * 6 + 2, none⟩ = some (.int .u64 a1) ∧ w.cell? ⟨b, off + i * 6 + 3, none⟩ = some (.int .u64 a2) ∧ w.cell? ⟨b, off + i * 6 + 4, none⟩ = some (.int .u64 a3) ∧ w.cell? ⟨b, off + i * 6 + 5, none⟩ = some (.slice a (ks.getD i nil).kids.length c) ∧ (enc n).R F w [.int .i64 (ks.getD i nil).kind, .int .u64 a0, .int .u64 a1, .int .u64 a2, .int .u64 a3, .slice a (ks.getD i nil).kids.length c] (ks.getD i nil) := by
  obtain ⟨ao, b, off, cap, h0, h1, h2, h3⟩ := Enc.slN nil h
  refine ⟨ao, b, off, cap, h0, h1, h2, fun i hi => ?_⟩
  obtain ⟨cs, _, g2, g3⟩ := h3 i hi
  rw [enc_size] at g2
  obtain ⟨m, rfl, vk, e1, q1, q2, q3⟩ := opened g3
  obtain ⟨a0, a1, a2, a3, hw⟩ := Cs.okFour q2
  have e2 : cs = [.int .i64 (ks.getD i nil).kind, .int .u64 a0, .int .u64 a1, .int .u64 a2, .int .u64 a3, vk] := by rw [e1, cel, hw]; rfl
  subst e2
  obtain ⟨ao, b, off, cap, u1, u2⟩ := q3
  simp only [List.cons.injEq, and_true] at u1
  subst u1
  exact ⟨a0, a1, a2, a3, _, _, hw, g2 0 (by decide), g2 1 (by decide), g2 2 (by decide), g2 3 (by decide), g2 4 (by decide), g2 5 (by decide), g3⟩

def kidsOf (k : Int) : Int := if k = 1 ∨ k = 2 ∨ k = 3 then 0 else if k = 6 then 1 else if k = 4 ∨ k = 5 then 2 else -1
def bad (t : Rx) : Bool := decide (kidsOf t.kind ≠ t.kids.length) || (decide (t.kind = 3) == decide (ws t = Dm.zero))
def chkK (f : Rx → Int → Int × Int) : List Rx → Int → Int × Int
  | [], n => (0, n)
  | k :: ks, n => if (f k n).1 = 0 then chkK f ks (f k n).2 else f k n
def chk : Nat → Rx → Int → Int → Int × Int
  | 0, _, _, n => (1, n)
  | f + 1, t, deep, n => if 100 < n + 1 then (2, n + 1) else if 30 < deep then (7, n + 1) else if bad t = true then (1, n + 1) else chkK (fun k n => chk f k (deep + 1) n) t.kids (n + 1)
def In (n : Int) : Prop := 0 ≤ n ∧ n ≤ 100
def Out (r : Int × Int) : Prop := 0 ≤ r.2 ∧ r.2 ≤ 101 ∧ (r.1 = 0 → r.2 ≤ 100) ∧ (r.1 = 0 ∨ r.1 = 1 ∨ r.1 = 2 ∨ r.1 = 7)
theorem chkK_out {f : Rx → Int → Int × Int} (hf : ∀ k n, In n → Out (f k n)) : ∀ {ks : List Rx} {n : Int}, In n → Out (chkK f ks n) := by
  intro ks
  induction ks with
  | nil => intro n h; exact ⟨h.1, Int.le_trans h.2 (by decide), fun _ => h.2, .inl rfl⟩
  | cons k ks ih =>
    intro n h
    have h1 := hf k n h
    rw [chkK]
    split
    · rename_i h0
      exact ih ⟨h1.1, h1.2.2.1 h0⟩
    · exact h1
theorem chk_out : ∀ {f : Nat} {t : Rx} {deep n : Int}, In n → Out (chk f t deep n) := by
  intro f
  induction f with
  | zero => intro t deep n h; exact ⟨h.1, Int.le_trans h.2 (by decide), (fun h => by cases h), .inr (.inl rfl)⟩
  | succ f ih =>
    intro t deep n h
    obtain ⟨h1, h2⟩ := h
    rw [chk]
    split
    · exact ⟨by show 0 ≤ n + 1; omega, by show n + 1 ≤ 101; omega, (fun h => by cases h), .inr (.inr (.inl rfl))⟩
    · split
      · exact ⟨by show 0 ≤ n + 1; omega, by show n + 1 ≤ 101; omega, (fun h => by cases h), .inr (.inr (.inr rfl))⟩
      · split
        · exact ⟨by show 0 ≤ n + 1; omega, by show n + 1 ≤ 101; omega, (fun h => by cases h), .inr (.inl rfl)⟩
        · exact chkK_out (fun k n hn => ih hn) ⟨by omega, by omega⟩
theorem drop_at {α : Type} (l : List α) (d : α) (k : Nat) (h : k < l.length) : l.drop k = l.getD k d :: l.drop (k + 1) := by
  rw [List.drop_eq_getElem_cons h]; simp [List.getD, List.getElem?_eq_getElem h]
theorem chkK_at {f : Rx → Int → Int × Int} {ks : List Rx} {n : Int} {i : Nat} (h1 : i < ks.length) : chkK f (ks.drop i) n = if (f (ks.getD i nil) n).1 = 0 then chkK f (ks.drop (i + 1)) (f (ks.getD i nil) n).2 else f (ks.getD i nil) n := by
  rw [drop_at ks nil i h1, chkK]
theorem chkK_end {f : Rx → Int → Int × Int} {ks : List Rx} {n : Int} {i : Nat} (h1 : ¬ i < ks.length) : chkK f (ks.drop i) n = (0, n) := by
  rw [List.drop_eq_nil_of_le (by omega), chkK]
/-- Nodes that are right, no deeper than f. -/
def good : Nat → Rx → Prop
  | 0, _ => False
  | f + 1, t => bad t = false ∧ ∀ k ∈ t.kids, good f k
/-- Nodes. -/
def cnt : Nat → Rx → Nat
  | 0, _ => 1
  | f + 1, t => 1 + (t.kids.map (cnt f)).sum
theorem cnt_pos (f : Nat) (t : Rx) : 0 < cnt f t := by
  cases f with
  | zero => exact Nat.one_pos
  | succ f => rw [cnt]; omega
theorem chkK_good {g : Rx → Int → Int × Int} {G : Rx → Prop} {c : Rx → Nat} (hg : ∀ k n, (g k n).1 = 0 → G k ∧ (g k n).2 = n + c k) : ∀ {ks : List Rx} {n : Int}, (chkK g ks n).1 = 0 → (∀ k ∈ ks, G k) ∧ (chkK g ks n).2 = n + ((ks.map c).sum : Nat) := by
  intro ks
  induction ks with
  | nil => intro n h; exact ⟨(fun k hk => absurd hk List.not_mem_nil), by simp [chkK]⟩
  | cons k ks ih =>
    intro n h
    rw [chkK] at h ⊢
    by_cases h0 : (g k n).1 = 0
    · rw [if_pos h0] at h ⊢
      obtain ⟨h1, h2⟩ := ih h
      obtain ⟨g1, g2⟩ := hg k n h0
      refine ⟨fun x hx => ?_, ?_⟩
      · rcases List.mem_cons.1 hx with rfl | hx
        · exact g1
        · exact h1 x hx
      · rw [h2, g2, List.map_cons, List.sum_cons]; omega
    · rw [if_neg h0] at h
      exact absurd h h0
theorem chk_good : ∀ {f : Nat} {t : Rx} {deep n : Int}, (chk f t deep n).1 = 0 → good f t ∧ (chk f t deep n).2 = n + cnt f t := by
  intro f
  induction f with
  | zero => intro t deep n h; cases h
  | succ f ih =>
    intro t deep n h
    rw [chk] at h ⊢
    split at h
    · cases h
    · rename_i h1
      split at h
      · cases h
      · rename_i h2
        split at h
        · cases h
        · rename_i h3
          rw [if_neg h1, if_neg h2, if_neg h3]
          obtain ⟨g1, g2⟩ := chkK_good (fun k n hk => ih hk) h
          refine ⟨⟨by simpa using h3, g1⟩, ?_⟩
          rw [g2, cnt]; exact (Int.add_assoc ..).trans (by congr 1)
/-- What is wrong with one that was opened up to f. -/
def err (f : Nat) (t : Rx) : Int := (chk f t 1 0).1
theorem err_good {f : Nat} {t : Rx} (h : err f t = 0) : good f t ∧ cnt f t ≤ 100 := by
  obtain ⟨h1, h2⟩ := chk_good h
  have := (chk_out (f := f) (t := t) (deep := 1) (n := 0) ⟨by decide, by decide⟩).2.2.1 h
  exact ⟨h1, by omega⟩
theorem good_kind {f : Nat} {t : Rx} (h : good f t) : ((t.kind = 1 ∨ t.kind = 2) ∧ t.kids = [] ∧ ws t = Dm.zero) ∨ (t.kind = 3 ∧ t.kids = [] ∧ ws t ≠ Dm.zero) ∨ (t.kind = 6 ∧ t.kids.length = 1 ∧ ws t = Dm.zero) ∨ ((t.kind = 4 ∨ t.kind = 5) ∧ t.kids.length = 2 ∧ ws t = Dm.zero) := by
  cases f with
  | zero => exact h.elim
  | succ f =>
    have h1 := h.1
    unfold bad at h1
    simp only [Bool.or_eq_false_iff, decide_eq_false_iff_not, Decidable.not_not] at h1
    obtain ⟨h1, h2⟩ := h1
    unfold kidsOf at h1
    by_cases k3 : t.kind = 3
    · have hw : ¬ ws t = Dm.zero := by
        intro e; rw [k3, e] at h2; simp at h2
      rw [if_pos (by omega)] at h1
      exact .inr (.inl ⟨k3, List.eq_nil_of_length_eq_zero (by omega), hw⟩)
    · have hw : ws t = Dm.zero := by
        by_cases e : ws t = Dm.zero
        · exact e
        · simp [k3, e] at h2
      by_cases k1 : t.kind = 1 ∨ t.kind = 2
      · rw [if_pos (by omega)] at h1
        exact .inl ⟨k1, List.eq_nil_of_length_eq_zero (by omega), hw⟩
      · rw [if_neg (by omega)] at h1
        by_cases k6 : t.kind = 6
        · rw [if_pos k6] at h1
          exact .inr (.inr (.inl ⟨k6, by omega, hw⟩))
        · rw [if_neg k6] at h1
          by_cases k4 : t.kind = 4 ∨ t.kind = 5
          · rw [if_pos k4] at h1
            exact .inr (.inr (.inr ⟨k4, by omega, hw⟩))
          · rw [if_neg k4] at h1
            omega
end Rx
end Go.Proofs.Ytfelikfppjlcmaa

/-
  strings.IndexByte: whatever the text and the byte.
-/
namespace Go.Proofs.Ytfelikfppjlcmaa
set_option linter.unusedVariables false
set_option linter.unusedSimpArgs false
open Go.ChangeShapes Go.WideShapes Go.ChangeAt Go.RowKit

set_option maxRecDepth 100000 in
theorem strIndex_any (s : ByteArray) (c : Int) (w : World) : Calls Try.prog 180 #[.string s, .int .u8 c] w fun e w' => e = .returned (.int .i64 (Lib.indexByte s.data.toList c.toNat.toUInt8)) ∧ w' = w := by
  have hx : ∀ W, (callFunc 224 #[.string s, .int .u8 c]).run Try.prog W = .ok (.value (.int .i64 (Lib.indexByte s.data.toList c.toNat.toUInt8))) W := fun W => by
    rw [run_callFunc_extern (e := Extern.BytealgIndexByte.indexByte) Try.func224 (by kernel_rfl) (by kernel_rfl) (by kernel_rfl) (by kernel_rfl), Lib.run_indexByteString]
    rfl
  generalize Lib.indexByte s.data.toList c.toNat.toUInt8 = R at *
  have H96 : ∀ W, Calls Try.prog 208 #[.string s, .int .u8 c] W fun e w' => e = .returned (.int .i64 R) ∧ w' = W := by
    intro W
    go_enter Try.func208, Try.ntmps208
    go_wp2
    go_ret
    exact ⟨rfl, rfl⟩
  have HC := Lib.hid H96
  clear H96 hx
  go_enter Try.func180, Try.ntmps180
  go_wp2_with (fail)
  go_at_call 208
  refine (HC.out _).mono ?_
  rintro e w1 ⟨rfl, rfl⟩
  go_wp2
  go_ret
  exact ⟨rfl, rfl⟩
end Go.Proofs.Ytfelikfppjlcmaa

/-
  How bytes and classes are written. (Plain functions; nothing of the program is claimed.)
-/
namespace Go.Proofs.Ytfelikfppjlcmaa
set_option linter.unusedVariables false
open Go.ChangeShapes Go.WideShapes Go.ChangeAt Go.RowKit

namespace Rct
def hexs : ByteArray := ⟨#[48, 49, 50, 51, 52, 53, 54, 55, 56, 57, 97, 98, 99, 100, 101, 102]⟩
def signs : ByteArray := ⟨#[40, 41, 91, 93, 124, 42, 43, 63, 46, 94, 45, 92]⟩
def one (b : Nat) : ByteArray := ⟨#[b.toUInt8]⟩
def sg (k : Nat) : Nat := ([40, 41, 91, 93, 124, 42, 43, 63, 46, 94, 45, 92] : List Nat).getD k 0
def isSign (b : Nat) : Bool := (List.range 12).any fun k => sg k == b
/-- A byte as text. -/
def ct (b : Nat) : ByteArray :=
  if b = 10 then ⟨#[92, 110]⟩ else if b = 9 then ⟨#[92, 116]⟩ else if b = 32 then ⟨#[92, 115]⟩
  else if b < 33 ∨ 126 < b then ⟨#[92, 120]⟩ ++ hexs.extract (b / 16) (b / 16 + 1) ++ hexs.extract (b % 16) (b % 16 + 1)
  else if isSign b = true then ⟨#[92]⟩ ++ one b else one b
theorem sg_lt (k : Nat) : sg k < 127 := by
  match k with
  | 0 | 1 | 2 | 3 | 4 | 5 | 6 | 7 | 8 | 9 | 10 | 11 => decide
  | k + 12 => simp [sg]
theorem isSign_of {b : Nat} (hb : b < 256) : decide (0 ≤ Lib.indexByte signs.data.toList ((b : Nat) : Int).toNat.toUInt8) = isSign b := by
  rw [Int.toNat_natCast, ← Lib.contains_iff_indexByte, List.contains_eq_any_beq]
  rw [show signs.data.toList = (List.range 12).map fun k => (sg k).toUInt8 from rfl, List.any_map]
  unfold isSign
  congr 1
  funext x
  have hx := sg_lt x
  simp only [Function.comp]
  generalize sg x = y at *
  rw [Bool.eq_iff_iff]
  simp only [beq_iff_eq]
  constructor
  · intro h
    have := congrArg UInt8.toNat h
    simp at this
    omega
  · intro h
    rw [h]
theorem enc_one {b : Nat} (hb : b < 128) : Utf8.encode (b : Int) = one b := by
  unfold Utf8.encode
  have hv : Utf8.valid (b : Int) = true := by unfold Utf8.valid; simp; omega
  simp only [hv, if_true, Int.toNat_natCast]
  rw [if_pos hb]; rfl
theorem one_size (b : Nat) : (one b).size = 1 := rfl
theorem ct_size (b : Nat) (hb : b < 256) : (ct b).size ≤ 4 := by
  unfold ct
  split
  · decide
  · split
    · decide
    · split
      · decide
      · split
        · rw [ByteArray.size_append, ByteArray.size_append, ByteArray.size_extract, ByteArray.size_extract]
          show 2 + _ + _ ≤ 4
          omega
        · split
          · rw [ByteArray.size_append, one_size]; decide
          · rw [one_size]; decide
end Rct
end Go.Proofs.Ytfelikfppjlcmaa

/-
  The runs of a class, from below and along its list. (Plain functions; nothing of the program is claimed.)
-/
namespace Go.Proofs.Ytfelikfppjlcmaa
set_option linter.unusedVariables false

namespace Rct
def endK (p : Nat → Bool) : Nat → Nat → Nat
  | 0, b => b
  | n + 1, b => if p (b + 1) = true then endK p n (b + 1) else b
/-- Where the run ends that b is in. -/
def fin (p : Nat → Bool) (b : Nat) : Nat := endK p (255 - b) b
def addR (out : ByteArray) (b e : Nat) : ByteArray :=
  if b < e then (if b + 1 < e then out ++ ct b ++ ⟨#[45]⟩ else out ++ ct b) ++ ct e else out ++ ct b
def start (p : Nat → Bool) (b : Nat) : Bool := p b && !(decide (0 < b) && p (b - 1))
def runsK (p : Nat → Bool) : Nat → ByteArray
  | 0 => ⟨#[]⟩
  | n + 1 => if start p n = true then addR (runsK p n) n (fin p n) else runsK p n
def runs (p : Nat → Bool) : ByteArray := runsK p 256
variable {p : Nat → Bool}
theorem fin_next {b : Nat} (hb : b < 255) : fin p b = if p (b + 1) = true then fin p (b + 1) else b := by
  unfold fin
  rw [show 255 - b = (255 - (b + 1)) + 1 by omega, endK]
theorem fin_last {b : Nat} (hb : ¬ b < 255) : fin p b = b := by
  unfold fin
  rw [show 255 - b = 0 by omega, endK]
theorem endK_le : ∀ (n b : Nat), b ≤ endK p n b ∧ endK p n b ≤ b + n ∧ ∀ y, b < y → y ≤ endK p n b → p y = true := by
  intro n
  induction n with
  | zero => intro b; exact ⟨Nat.le_refl _, Nat.le_refl _, fun y h1 h2 => by simp only [endK] at h2; omega⟩
  | succ n ih =>
    intro b
    rw [endK]
    split
    · rename_i h
      obtain ⟨h1, h2, h3⟩ := ih (b + 1)
      refine ⟨by omega, by omega, fun y g1 g2 => ?_⟩
      by_cases e : y = b + 1
      · rw [e]; exact h
      · exact h3 y (by omega) g2
    · exact ⟨Nat.le_refl _, by omega, fun y g1 g2 => by omega⟩
theorem fin_le {b : Nat} (hb : b < 256) : b ≤ fin p b ∧ fin p b < 256 ∧ ∀ y, b < y → y ≤ fin p b → p y = true := by
  obtain ⟨h1, h2, h3⟩ := endK_le (p := p) (255 - b) b
  exact ⟨h1, by show endK p (255 - b) b < 256; omega, h3⟩
theorem addR_size {out : ByteArray} {b e : Nat} (hb : b < 256) (he : e < 256) : (addR out b e).size ≤ out.size + 9 := by
  have h1 := ct_size b hb
  have h2 := ct_size e he
  have h3 : (⟨#[45]⟩ : ByteArray).size = 1 := rfl
  unfold addR
  split
  · split
    · rw [ByteArray.size_append, ByteArray.size_append, ByteArray.size_append]; omega
    · rw [ByteArray.size_append, ByteArray.size_append]; omega
  · rw [ByteArray.size_append]; omega
theorem runsK_size : ∀ {n : Nat}, n ≤ 256 → (runsK p n).size ≤ 9 * n := by
  intro n
  induction n with
  | zero => intro _; exact Nat.le_refl _
  | succ n ih =>
    intro h
    have h1 := ih (by omega)
    rw [runsK]
    split
    · have := addR_size (out := runsK p n) (show n < 256 by omega) (fin_le (p := p) (show n < 256 by omega)).2.1
      omega
    · omega
theorem runs_skip {a : Nat} : ∀ {b : Nat}, a ≤ b → (∀ y, a ≤ y → y < b → start p y = false) → runsK p b = runsK p a := by
  intro b
  induction b with
  | zero => intro h _; rw [show a = 0 by omega]
  | succ b ih =>
    intro h hn
    by_cases e : a = b + 1
    · rw [e]
    · rw [runsK, if_neg (by rw [hn b (by omega) (by omega)]; decide)]
      exact ih (by omega) fun y h1 h2 => hn y h1 (by omega)

/-! Along the list. -/
def lst (p : Nat → Bool) : List Nat := (List.range 256).filter p
def nth (p : Nat → Bool) (i : Nat) : Nat := (lst p).getD i 256
theorem nth_in {i : Nat} (h : i < (lst p).length) : nth p i < 256 ∧ p (nth p i) = true := by
  have e : nth p i = (lst p)[i] := by unfold nth; simp [List.getD, List.getElem?_eq_getElem h]
  have hm : nth p i ∈ lst p := by rw [e]; exact List.getElem_mem h
  obtain ⟨h1, h2⟩ := List.mem_filter.1 hm
  exact ⟨List.mem_range.1 h1, h2⟩
theorem nth_le (i : Nat) : nth p i ≤ 256 := by
  by_cases h : i < (lst p).length
  · exact Nat.le_of_lt (nth_in h).1
  · unfold nth; rw [List.getD_eq_getElem?_getD, List.getElem?_eq_none (by omega)]; exact Nat.le_refl _
theorem nth_end {i : Nat} (h : ¬ i < (lst p).length) : nth p i = 256 := by
  unfold nth; rw [List.getD_eq_getElem?_getD, List.getElem?_eq_none (by omega)]; rfl
theorem nth_lt {i j : Nat} (h : i < j) (hj : j < (lst p).length) : nth p i < nth p j := by
  have hp := List.pairwise_iff_getElem.1 ((List.pairwise_lt_range (n := 256)).filter p) i j (by have : i < (lst p).length := by omega
                                                                                                exact this) hj h
  unfold nth lst
  unfold lst at hj
  rw [List.getD_eq_getElem?_getD, List.getD_eq_getElem?_getD, List.getElem?_eq_getElem (by omega), List.getElem?_eq_getElem hj]
  exact hp
theorem nth_of {y : Nat} (hy : y < 256) (hp : p y = true) : ∃ j, j < (lst p).length ∧ nth p j = y := by
  obtain ⟨j, hj, e⟩ := List.getElem_of_mem (List.mem_filter.2 ⟨List.mem_range.2 hy, hp⟩ : y ∈ lst p)
  exact ⟨j, hj, by unfold nth lst; rw [List.getD_eq_getElem?_getD, List.getElem?_eq_getElem hj]; exact e⟩
theorem gap0 {y : Nat} (h : y < nth p 0) : p y = false := by
  cases e : p y
  · rfl
  · have := nth_le (p := p) 0
    obtain ⟨j, hj, hj2⟩ := nth_of (show y < 256 by omega) e
    by_cases j0 : j = 0
    · subst j0; omega
    · have := nth_lt (show 0 < j by omega) hj
      omega
theorem gap {i y : Nat} (hi : i < (lst p).length) (h1 : nth p i < y) (h2 : y < nth p (i + 1)) : p y = false := by
  cases e : p y
  · rfl
  · have := nth_le (p := p) (i + 1)
    obtain ⟨j, hj, hj2⟩ := nth_of (show y < 256 by omega) e
    by_cases hji : j ≤ i
    · by_cases hje : j = i
      · subst hje; omega
      · have := nth_lt (show j < i by omega) hi
        omega
    · by_cases hje : j = i + 1
      · subst hje; omega
      · have := nth_lt (show i + 1 < j by omega) hj
        omega
theorem nth_up {i : Nat} (hi : i < (lst p).length) : nth p i < nth p (i + 1) := by
  by_cases h : i + 1 < (lst p).length
  · exact nth_lt (by omega) h
  · rw [nth_end h]; exact (nth_in hi).1
/-- Does the run go on? -/
theorem goes_on {k : Nat} (hk : k < (lst p).length) : (k + 1 < (lst p).length ∧ nth p (k + 1) = nth p k + 1) ↔ (nth p k < 255 ∧ p (nth p k + 1) = true) := by
  constructor
  · intro ⟨h1, h2⟩
    have := nth_in h1
    rw [h2] at this
    exact ⟨by omega, this.2⟩
  · intro ⟨h1, h2⟩
    have hu := nth_up hk
    have h3 : nth p (k + 1) = nth p k + 1 := by
      by_cases e : nth p (k + 1) = nth p k + 1
      · exact e
      · have := gap hk (show nth p k < nth p k + 1 by omega) (by omega)
        rw [h2] at this; cases this
    refine ⟨?_, h3⟩
    by_cases h : k + 1 < (lst p).length
    · exact h
    · rw [nth_end h] at h3; omega
theorem fin_on {k : Nat} (hk : k < (lst p).length) (h : k + 1 < (lst p).length ∧ nth p (k + 1) = nth p k + 1) : fin p (nth p k) = fin p (nth p (k + 1)) := by
  obtain ⟨h1, h2⟩ := (goes_on hk).1 h
  rw [fin_next h1, if_pos h2, h.2]
theorem fin_off {k : Nat} (hk : k < (lst p).length) (h : ¬ (k + 1 < (lst p).length ∧ nth p (k + 1) = nth p k + 1)) : fin p (nth p k) = nth p k := by
  by_cases h1 : nth p k < 255
  · rw [fin_next h1, if_neg fun h2 => h ((goes_on hk).2 ⟨h1, h2⟩)]
  · exact fin_last h1
/-- What has been written when place i of the list is at hand. -/
def At (p : Nat → Bool) (i : Nat) (out : ByteArray) : Prop := out = runsK p (nth p i) ∧ (i < (lst p).length → start p (nth p i) = true)
theorem at_zero : At p 0 ⟨#[]⟩ := by
  refine ⟨(runs_skip (a := 0) (Nat.zero_le _) fun y _ h => ?_).symm, fun h => ?_⟩
  · unfold start; rw [gap0 h]; rfl
  · unfold start
    rw [(nth_in h).2]
    by_cases h0 : 0 < nth p 0
    · rw [gap0 (show nth p 0 - 1 < nth p 0 by omega)]; simp
    · simp [h0]
theorem at_next {i k : Nat} {out : ByteArray} (hi : i ≤ k) (hk : k < (lst p).length) (h : At p i out) (hf : fin p (nth p i) = nth p k) (hoff : ¬ (k + 1 < (lst p).length ∧ nth p (k + 1) = nth p k + 1)) : At p (k + 1) (addR out (nth p i) (nth p k)) := by
  have hik : i < (lst p).length := by omega
  have hu := nth_up hk
  have hin := nth_in hik
  obtain ⟨f1, f2, f3⟩ := fin_le (p := p) hin.1
  rw [hf] at f1 f2 f3
  have hno : ∀ y, nth p i + 1 ≤ y → y < nth p (k + 1) → start p y = false := fun y h1 h2 => by
    by_cases hy : y ≤ nth p k
    · unfold start
      by_cases e : y - 1 = nth p i
      · rw [e, hin.2]; simp; omega
      · rw [f3 (y - 1) (by omega) (by omega)]; simp; omega
    · unfold start; rw [gap hk (by omega) h2]; rfl
  refine ⟨?_, fun h1 => ?_⟩
  · rw [runs_skip (a := nth p i + 1) (by omega) hno, runsK, if_pos (h.2 hik), hf, h.1]
  · unfold start
    rw [(nth_in h1).2]
    have hne : nth p (k + 1) ≠ nth p k + 1 := fun e => hoff ⟨h1, e⟩
    rw [gap hk (show nth p k < nth p (k + 1) - 1 by omega) (by omega)]
    simp
theorem at_end {i : Nat} {out : ByteArray} (hi : ¬ i < (lst p).length) (h : At p i out) : out = runs p := by
  rw [h.1, nth_end hi]; rfl
theorem lst_len : (lst p).length ≤ 256 := Nat.le_trans (List.length_filter_le _ _) (by simp)
/-- A class as text. -/
def cls (p : Nat → Bool) : ByteArray :=
  if (lst p).length = 1 then runs p
  else if (lst p).length = 255 ∧ p 10 = false then ⟨#[46]⟩
  else if 128 < (lst p).length then ⟨#[91, 94]⟩ ++ runs (fun b => !p b) ++ ⟨#[93]⟩
  else ⟨#[91]⟩ ++ runs p ++ ⟨#[93]⟩
theorem runs_size : (runs p).size ≤ 2304 := runsK_size (Nat.le_refl _)
theorem cls_size : (cls p).size ≤ 2307 := by
  have h1 := runs_size (p := p)
  have h2 := runs_size (p := fun b => !p b)
  unfold cls
  split
  · omega
  · split
    · show 1 ≤ 2307; decide
    · split
      · rw [ByteArray.size_append, ByteArray.size_append]
        show 2 + _ + 1 ≤ 2307
        omega
      · rw [ByteArray.size_append, ByteArray.size_append]
        show 1 + _ + 1 ≤ 2307
        omega
/-- One byte: no run. -/
theorem runs_one (h : (lst p).length = 1) : runs p = ct (nth p 0) := by
  have h0 := at_zero (p := p)
  have hoff : ¬ (0 + 1 < (lst p).length ∧ nth p (0 + 1) = nth p 0 + 1) := by rw [h]; simp
  have h1 := at_next (Nat.le_refl 0) (by omega) h0 (fin_off (by omega) hoff) hoff
  rw [← at_end (by omega) h1]
  unfold addR
  rw [if_neg (by omega)]
  exact ByteArray.empty_append
theorem runsK_congr {q : Nat → Bool} (h : ∀ x, x < 256 → p x = q x) : ∀ {n : Nat}, n ≤ 256 → runsK p n = runsK q n := by
  have he : ∀ n b, b + n ≤ 255 → endK p n b = endK q n b := by
    intro n
    induction n with
    | zero => intro b _; rfl
    | succ n ih => intro b hb; rw [endK, endK, h (b + 1) (by omega), ih (b + 1) (by omega)]
  intro n
  induction n with
  | zero => intro _; rfl
  | succ n ih =>
    intro hn
    have hs : start p n = start q n := by unfold start; rw [h n (by omega), h (n - 1) (by omega)]
    have hf : fin p n = fin q n := by unfold fin; exact he _ _ (by omega)
    rw [runsK, runsK, hs, hf, ih (by omega)]
theorem runs_congr {q : Nat → Bool} (h : ∀ x, x < 256 → p x = q x) : runs p = runs q := runsK_congr h (Nat.le_refl _)
end Rct
end Go.Proofs.Ytfelikfppjlcmaa

/-
  A regular expression as text. (Plain functions; nothing of the program is claimed.)
-/
namespace Go.Proofs.Ytfelikfppjlcmaa
set_option linter.unusedVariables false

namespace Rcs
def brk (ks : List Int) (k : Int) (s : ByteArray) : ByteArray := if ks.contains k = true then ⟨#[40]⟩ ++ s ++ ⟨#[41]⟩ else s
def sh : Nat → Rx → ByteArray
  | 0, _ => ⟨#[]⟩
  | f + 1, t =>
    if t.kind = 2 then ⟨#[40, 41]⟩ else if t.kind = 1 then ⟨#[91, 93]⟩ else if t.kind = 3 then Rct.cls (Dm.mem (Rx.ws t))
    else if t.kind = 6 then brk [4, 5, 6] (t.kids.getD 0 Rx.nil).kind (sh f (t.kids.getD 0 Rx.nil)) ++ ⟨#[42]⟩
    else if t.kind = 4 then brk [5] (t.kids.getD 0 Rx.nil).kind (sh f (t.kids.getD 0 Rx.nil)) ++ brk [5, 4] (t.kids.getD 1 Rx.nil).kind (sh f (t.kids.getD 1 Rx.nil))
    else brk [] (t.kids.getD 0 Rx.nil).kind (sh f (t.kids.getD 0 Rx.nil)) ++ ⟨#[124]⟩ ++ brk [5] (t.kids.getD 1 Rx.nil).kind (sh f (t.kids.getD 1 Rx.nil))
theorem brk_nil (k : Int) (s : ByteArray) : brk [] k s = s := rfl
theorem brk_size (ks : List Int) (k : Int) (s : ByteArray) : (brk ks k s).size ≤ s.size + 2 := by
  unfold brk
  split
  · rw [ByteArray.size_append, ByteArray.size_append]
    show 1 + _ + 1 ≤ _; omega
  · omega
theorem kids1 {f : Nat} {t : Rx} (h : t.kids.length = 1) : Rx.cnt (f + 1) t = 1 + Rx.cnt f (t.kids.getD 0 Rx.nil) := by
  rw [Rx.cnt]
  generalize t.kids = l at *
  match l, h with
  | [a], _ => simp
theorem kids2 {f : Nat} {t : Rx} (h : t.kids.length = 2) : Rx.cnt (f + 1) t = 1 + Rx.cnt f (t.kids.getD 0 Rx.nil) + Rx.cnt f (t.kids.getD 1 Rx.nil) := by
  rw [Rx.cnt]
  generalize t.kids = l at *
  match l, h with
  | [a, b], _ => simp; omega
theorem good_kid {f : Nat} {t : Rx} {i : Nat} (h : Rx.good (f + 1) t) (hi : i < t.kids.length) : Rx.good f (t.kids.getD i Rx.nil) := by
  refine h.2 _ ?_
  rw [List.getD_eq_getElem?_getD, List.getElem?_eq_getElem hi]
  exact List.getElem_mem hi
theorem sh_size : ∀ {f : Nat} {t : Rx}, Rx.good f t → (sh f t).size ≤ 2400 * Rx.cnt f t := by
  intro f
  induction f with
  | zero => intro t h; exact h.elim
  | succ f ih =>
    intro t h
    have hp := Rx.cnt_pos (f + 1) t
    rcases Rx.good_kind h with ⟨hk, _, _⟩ | ⟨hk, _, _⟩ | ⟨hk, hl, _⟩ | ⟨hk, hl, _⟩
    · rw [sh]
      rcases hk with hk | hk
      · rw [if_neg (by omega), if_pos hk]; show 2 ≤ _; omega
      · rw [if_pos hk]; show 2 ≤ _; omega
    · rw [sh, if_neg (by omega), if_neg (by omega), if_pos hk]
      have := Rct.cls_size (p := Dm.mem (Rx.ws t))
      omega
    · rw [sh, if_neg (by omega), if_neg (by omega), if_neg (by omega), if_pos hk, ByteArray.size_append, kids1 hl]
      have h1 := ih (good_kid h (i := 0) (by omega))
      have h2 := brk_size [4, 5, 6] (t.kids.getD 0 Rx.nil).kind (sh f (t.kids.getD 0 Rx.nil))
      show _ + 1 ≤ _
      omega
    · have h1 := ih (good_kid h (i := 0) (by omega))
      have h2 := ih (good_kid h (i := 1) (by omega))
      rw [kids2 hl]
      rcases hk with hk | hk
      · rw [sh, if_neg (by omega), if_neg (by omega), if_neg (by omega), if_neg (by omega), if_pos hk, ByteArray.size_append]
        have h3 := brk_size [5] (t.kids.getD 0 Rx.nil).kind (sh f (t.kids.getD 0 Rx.nil))
        have h4 := brk_size [5, 4] (t.kids.getD 1 Rx.nil).kind (sh f (t.kids.getD 1 Rx.nil))
        omega
      · rw [sh, if_neg (by omega), if_neg (by omega), if_neg (by omega), if_neg (by omega), if_neg (by omega), ByteArray.size_append, ByteArray.size_append]
        have h3 := brk_size [] (t.kids.getD 0 Rx.nil).kind (sh f (t.kids.getD 0 Rx.nil))
        have h4 := brk_size [5] (t.kids.getD 1 Rx.nil).kind (sh f (t.kids.getD 1 Rx.nil))
        show _ + 1 + _ ≤ _
        omega
end Rcs
end Go.Proofs.Ytfelikfppjlcmaa
