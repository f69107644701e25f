/-
  One state at a time: the sets of places, as lists; the sets as four words. (Plain functions; nothing of the program is claimed.)
-/
import Derived.Test.YtlgabpcddldelaaDoorMapView
import Derived.Test.YtlgabpcddldelaaDoorHas
namespace Go.Proofs.YtlgabpcddldelaaDoor
set_option linter.unusedVariables false

namespace Dm
/-! Four words. -/
def mem (ws : List Nat) (i : Nat) : Bool := (ws.getD (i / 64) 0).testBit (i % 64)
def put (ws : List Nat) (i : Nat) : List Nat := ws.set (i / 64) (ws.getD (i / 64) 0 ||| 2 ^ (i % 64))
structure Ok4 (ws : List Nat) : Prop where
  len : ws.length = 4
  lt : ∀ j, ws.getD j 0 < 2 ^ 64
def zero : List Nat := [0, 0, 0, 0]
theorem ok_zero : Ok4 zero := ⟨rfl, fun j => by
  match j with
  | 0 => decide
  | 1 => decide
  | 2 => decide
  | 3 => decide
  | j + 4 => simp [zero, List.getD]⟩
theorem mem_zero (i : Nat) : mem zero i = false := by
  have h : ∀ j, zero.getD j 0 = 0 := fun j => by
    match j with
    | 0 => rfl
    | 1 => rfl
    | 2 => rfl
    | 3 => rfl
    | j + 4 => simp [zero, List.getD]
  unfold mem; rw [h]; simp
theorem ok_put {ws : List Nat} (h : Ok4 ws) {i : Nat} (hi : i < 256) : Ok4 (put ws i) := by
  refine ⟨by simp [put, h.len], fun j => ?_⟩
  unfold put
  by_cases e : i / 64 = j
  · subst e
    rw [List.getD_eq_getElem?_getD, List.getElem?_set_self (by rw [h.len]; omega)]
    exact Nat.or_lt_two_pow (h.lt _) (Nat.pow_lt_pow_right (by decide) (by omega))
  · rw [List.getD_eq_getElem?_getD, List.getElem?_set_ne e, ← List.getD_eq_getElem?_getD]
    exact h.lt j
theorem mem_put {ws : List Nat} (h : Ok4 ws) {i j : Nat} (hi : i < 256) (hj : j < 256) : mem (put ws i) j = (mem ws j || decide (i = j)) := by
  unfold mem put
  by_cases e : i / 64 = j / 64
  · rw [← e, List.getD_eq_getElem?_getD, List.getElem?_set_self (by rw [h.len]; omega)]
    simp only [Option.getD_some, Nat.testBit_or, Nat.testBit_two_pow]
    congr 1
    rw [Bool.eq_iff_iff, decide_eq_true_iff, decide_eq_true_iff]
    omega
  · rw [List.getD_eq_getElem?_getD, List.getElem?_set_ne e, ← List.getD_eq_getElem?_getD]
    have : decide (i = j) = false := decide_eq_false (fun h => e (by rw [h]))
    rw [this, Bool.or_false]
theorem ext {a b : List Nat} (ha : Ok4 a) (hb : Ok4 b) (h : ∀ i, i < 256 → mem a i = mem b i) : a = b := by
  apply List.ext_getElem (by rw [ha.len, hb.len])
  intro j h1 h2
  have hj : j < 4 := by rw [ha.len] at h1; exact h1
  have e : ∀ k, k < 64 → (a.getD j 0).testBit k = (b.getD j 0).testBit k := fun k hk => by
    have := h (64 * j + k) (by omega)
    unfold mem at this
    rw [show (64 * j + k) / 64 = j by omega, show (64 * j + k) % 64 = k by omega] at this
    exact this
  have e2 : a.getD j 0 = b.getD j 0 := by
    apply Nat.eq_of_testBit_eq
    intro k
    by_cases hk : k < 64
    · exact e k hk
    · rw [Nat.testBit_lt_two_pow (Nat.lt_of_lt_of_le (ha.lt j) (Nat.pow_le_pow_right (by decide) (by omega))), Nat.testBit_lt_two_pow (Nat.lt_of_lt_of_le (hb.lt j) (Nat.pow_le_pow_right (by decide) (by omega)))]
  simpa [List.getD, List.getElem?_eq_getElem h1, List.getElem?_eq_getElem h2] using e2
def ofL (l : List Nat) : List Nat := l.foldl put zero
theorem foldl_put (l : List Nat) : ∀ ws, Ok4 ws → (∀ x ∈ l, x < 256) → Ok4 (l.foldl put ws) ∧ ∀ j, j < 256 → mem (l.foldl put ws) j = (mem ws j || l.contains j) := by
  induction l with
  | nil => intro ws h _; exact ⟨h, fun j _ => by simp⟩
  | cons x l ih =>
    intro ws h hl
    have hx := hl x (.head _)
    obtain ⟨h1, h2⟩ := ih (put ws x) (ok_put h hx) (fun y hy => hl y (.tail _ hy))
    refine ⟨h1, fun j hj => ?_⟩
    rw [List.foldl_cons, h2 j hj, mem_put h hx hj, List.contains_cons, Bool.or_assoc]
    congr 2
    rw [Bool.eq_iff_iff, decide_eq_true_iff, beq_iff_eq]
    exact eq_comm
theorem ok_ofL {l : List Nat} (h : ∀ x ∈ l, x < 256) : Ok4 (ofL l) := (foldl_put l zero ok_zero h).1
theorem mem_ofL {l : List Nat} (h : ∀ x ∈ l, x < 256) {j : Nat} (hj : j < 256) : mem (ofL l) j = l.contains j := by
  have := (foldl_put l zero ok_zero h).2 j hj
  rw [mem_zero, Bool.false_or] at this
  exact this
/-- Lists out of one rising row that have the same words are the same. -/
theorem sel_ext {c d : Nat → Bool} {n : Nat} (hn : n ≤ 256) (h : ofL ((List.range n).filter c) = ofL ((List.range n).filter d)) : (List.range n).filter c = (List.range n).filter d := by
  have hb : ∀ (c : Nat → Bool), ∀ x ∈ (List.range n).filter c, x < 256 := fun c x hx => by have := List.mem_range.1 (List.mem_filter.1 hx).1; omega
  apply List.filter_congr
  intro x hx
  have hxn := List.mem_range.1 hx
  have h1 := mem_ofL (hb c) (show x < 256 by omega)
  have h2 := mem_ofL (hb d) (show x < 256 by omega)
  rw [h, h2] at h1
  have hc : ∀ (c : Nat → Bool), ((List.range n).filter c).contains x = c x := fun c => by
    rw [Bool.eq_iff_iff, List.contains_iff_mem, List.mem_filter]
    exact ⟨fun q => q.2, fun q => ⟨hx, q⟩⟩
  rw [hc, hc] at h1
  exact h1.symm

/-! The automaton. -/
structure Pn where
  cl : List (List Int)
  ru : List Int
  fi : List Int
  fo : List (List Int)
  la : List Bool
  em : List Bool
def all (P : Pn) (k : Nat) (from_ : List Nat) (x : Nat) : Bool := if k = 0 then P.fi.contains (x : Int) else from_.any fun y => (P.fo.getD y []).contains (x : Int)
def to' (P : Pn) (k : Nat) (from_ : List Nat) (b : Nat) : List Nat := (List.range P.cl.length).filter fun x => all P k from_ x && Pl.has (P.cl.getD x []) b
def least (P : Pn) (l : List Nat) (e : Bool) : Int := match (List.range P.em.length).find? (fun i => (e && P.em.getD i false) || l.any fun y => decide (P.ru.getD y 0 = (i : Int)) && P.la.getD y false) with
  | some i => (i : Int)
  | none => -1
/-- Where a set stands among those behind the first one; their number, if it is new. -/
def at' (S : List (List Nat)) (t : List Nat) : Nat := 1 + (S.drop 1).findIdx (fun s => decide (s = t))
def step (P : Pn) (k : Nat) (fr : List Nat) (st : List (List Nat) × List Int) (b : Nat) : List (List Nat) × List Int :=
  let t := to' P k fr b
  if t = [] then (st.1, st.2 ++ [-1]) else (if at' st.1 t = st.1.length then st.1 ++ [t] else st.1, st.2 ++ [(at' st.1 t : Int)])
def rowK (P : Pn) (k : Nat) (fr : List Nat) (S : List (List Nat)) (b : Nat) : List (List Nat) × List Int := (List.range b).foldl (step P k fr) (S, [])
theorem rowK_zero (P : Pn) (k : Nat) (fr : List Nat) (S : List (List Nat)) : rowK P k fr S 0 = (S, []) := rfl
theorem rowK_succ (P : Pn) (k : Nat) (fr : List Nat) (S : List (List Nat)) (b : Nat) : rowK P k fr S (b + 1) = step P k fr (rowK P k fr S b) b := by
  unfold rowK; rw [List.range_succ, List.foldl_append]; rfl
theorem step_prefix (P : Pn) (k : Nat) (fr : List Nat) (st : List (List Nat) × List Int) (b : Nat) : ∃ T, (step P k fr st b).1 = st.1 ++ T := by
  unfold step
  simp only
  split
  · exact ⟨[], by simp⟩
  · simp only
    split
    · exact ⟨_, rfl⟩
    · exact ⟨[], by simp⟩
theorem rowK_prefix (P : Pn) (k : Nat) (fr : List Nat) (S : List (List Nat)) (b : Nat) : ∃ T, (rowK P k fr S b).1 = S ++ T := by
  induction b with
  | zero => exact ⟨[], by simp [rowK_zero]⟩
  | succ b ih =>
    obtain ⟨T, hT⟩ := ih
    obtain ⟨T2, h2⟩ := step_prefix P k fr (rowK P k fr S b) b
    exact ⟨T ++ T2, by rw [rowK_succ, h2, hT, List.append_assoc]⟩
theorem rowK_len_le (P : Pn) (k : Nat) (fr : List Nat) (S : List (List Nat)) (b : Nat) : S.length ≤ (rowK P k fr S b).1.length := by
  obtain ⟨T, h⟩ := rowK_prefix P k fr S b
  rw [h]; simp
theorem rowK_row_len (P : Pn) (k : Nat) (fr : List Nat) (S : List (List Nat)) (b : Nat) : (rowK P k fr S b).2.length = b := by
  induction b with
  | zero => rfl
  | succ b ih =>
    rw [rowK_succ]
    unfold step
    simp only
    split <;> simp [ih]
theorem step_len_le (P : Pn) (k : Nat) (fr : List Nat) (st : List (List Nat) × List Int) (b : Nat) : (step P k fr st b).1.length ≤ st.1.length + 1 := by
  unfold step
  simp only
  split
  · simp
  · simp only
    split
    · simp
    · simp
theorem rowK_mono (P : Pn) (k : Nat) (fr : List Nat) (S : List (List Nat)) {b c : Nat} (h : b ≤ c) : (rowK P k fr S b).1.length ≤ (rowK P k fr S c).1.length := by
  induction h with
  | refl => exact Nat.le_refl _
  | step _ ih =>
    rename_i m _
    obtain ⟨T, hT⟩ := step_prefix P k fr (rowK P k fr S m) m
    rw [rowK_succ, hT, List.length_append]
    omega
/-- The sets, when k states have got their rows. -/
def sets (P : Pn) : Nat → List (List Nat)
  | 0 => [[]]
  | k + 1 => if k < (sets P k).length then (rowK P k ((sets P k).getD k []) (sets P k) 256).1 else sets P k
theorem sets_succ {P : Pn} {k : Nat} (h : k < (sets P k).length) : sets P (k + 1) = (rowK P k ((sets P k).getD k []) (sets P k) 256).1 := by rw [sets, if_pos h]
def row (P : Pn) (k : Nat) : List Int := (rowK P k ((sets P k).getD k []) (sets P k) 256).2
def rows (P : Pn) (k : Nat) : List (List Int) := (List.range k).map (row P)
theorem rows_succ (P : Pn) (k : Nat) : rows P (k + 1) = rows P k ++ [row P k] := by simp [rows, List.range_succ]
def tags (P : Pn) (S : List (List Nat)) : List Int := least P [] true :: (S.drop 1).map (fun s => least P s false)
theorem tags_snoc (P : Pn) {S : List (List Nat)} (h : 0 < S.length) (t : List Nat) : tags P (S ++ [t]) = tags P S ++ [least P t false] := by
  unfold tags
  rw [List.drop_append_of_le_length (by omega), List.map_append]
  rfl
theorem sets_ne (P : Pn) (k : Nat) : 0 < (sets P k).length := by
  induction k with
  | zero => simp [sets]
  | succ k ih =>
    rw [sets]
    split
    · exact Nat.lt_of_lt_of_le ih (rowK_len_le ..)
    · exact ih
theorem sets_prefix (P : Pn) (m k : Nat) : ∃ T, sets P (m + k) = sets P m ++ T := by
  induction k with
  | zero => exact ⟨[], by simp⟩
  | succ k ih =>
    obtain ⟨T, hT⟩ := ih
    rw [← Nat.add_assoc, sets]
    split
    · obtain ⟨T2, h2⟩ := rowK_prefix P (m + k) ((sets P (m + k)).getD (m + k) []) (sets P (m + k)) 256
      exact ⟨T ++ T2, by rw [h2, hT, List.append_assoc]⟩
    · exact ⟨T, hT⟩
theorem sets_len_le (P : Pn) {m k : Nat} (h : m ≤ k) : (sets P m).length ≤ (sets P k).length := by
  obtain ⟨T, hT⟩ := sets_prefix P m (k - m)
  rw [show m + (k - m) = k by omega] at hT
  rw [hT]; simp
theorem sets_stop {P : Pn} {k m : Nat} (h : k = (sets P k).length) (hm : k ≤ m) : sets P m = sets P k := by
  induction hm with
  | refl => rfl
  | step hm ih =>
    rename_i m
    have : k ≤ m := hm
    rw [sets, ih, if_neg (by omega)]
/-- What is answered: none where there are too many states. -/
def Says (P : Pn) (o : Option (List (List Int) × List Int)) : Prop :=
  ∃ k, (sets P k).length ≤ 200 ∧ ((k = (sets P k).length ∧ o = some (rows P k, tags P (sets P k))) ∨ (k < (sets P k).length ∧ 200 < (sets P (k + 1)).length ∧ o = none))
theorem Says.one {P : Pn} {o o' : Option (List (List Int) × List Int)} (h : Says P o) (h' : Says P o') : o = o' := by
  have lt : ∀ {k k' : Nat} {o o' : Option (List (List Int) × List Int)}, k < k' → (sets P k').length ≤ 200 →
      ((k = (sets P k).length ∧ o = some (rows P k, tags P (sets P k))) ∨ (k < (sets P k).length ∧ 200 < (sets P (k + 1)).length ∧ o = none)) →
      ((k' = (sets P k').length ∧ o' = some (rows P k', tags P (sets P k'))) ∨ (k' < (sets P k').length ∧ 200 < (sets P (k' + 1)).length ∧ o' = none)) → False := by
    intro k k' o o' hlt hle h1 h2
    rcases h1 with ⟨a, _⟩ | ⟨_, b, _⟩
    · have e := sets_stop a (Nat.le_of_lt hlt)
      rcases h2 with ⟨c, _⟩ | ⟨c, _⟩ <;> rw [e] at c <;> omega
    · have := sets_len_le P (show k + 1 ≤ k' by omega)
      omega
  obtain ⟨k, h1, h2⟩ := h
  obtain ⟨k', h1', h2'⟩ := h'
  rcases Nat.lt_trichotomy k k' with hk | hk | hk
  · exact (lt hk h1' h2 h2').elim
  · subst hk
    rcases h2 with ⟨a, b⟩ | ⟨a, b, c⟩ <;> rcases h2' with ⟨a', b'⟩ | ⟨a', b', c'⟩
    · rw [b, b']
    · omega
    · omega
    · rw [c, c']
  · exact (lt hk h1 h2' h2).elim
end Dm
end Go.Proofs.YtlgabpcddldelaaDoor
