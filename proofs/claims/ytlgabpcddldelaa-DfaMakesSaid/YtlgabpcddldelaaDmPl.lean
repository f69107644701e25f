/-
  One state at a time: the program's words and numbers against the sets and their places. (Plain; nothing of the program is claimed.)
-/
import Derived.Test.YtlgabpcddldelaaDmState
namespace Go.Proofs.Ytlgabpcddldelaa
set_option linter.unusedVariables false
set_option linter.unusedSimpArgs false

namespace Dm
/-- Lists out of one rising row, those behind the first apart from each other. -/
def Sel (n : Nat) (S : List (List Nat)) : Prop := (∀ s ∈ S, ∃ c : Nat → Bool, s = (List.range n).filter c) ∧ (S.drop 1).Nodup
theorem sel_one (n : Nat) : Sel n [[]] := ⟨fun s hs => by rw [List.mem_singleton] at hs; subst hs; exact ⟨fun _ => false, by simp⟩, by simp⟩
theorem at_len {S : List (List Nat)} {t : List Nat} (h0 : 0 < S.length) : at' S t = S.length ↔ t ∉ S.drop 1 := by
  unfold at'
  have hl : (S.drop 1).length = S.length - 1 := by simp
  constructor
  · intro h hm
    have : (S.drop 1).findIdx (fun s => decide (s = t)) < (S.drop 1).length := List.findIdx_lt_length_of_exists ⟨t, hm, by simp⟩
    omega
  · intro h
    have : (S.drop 1).findIdx (fun s => decide (s = t)) = (S.drop 1).length := by
      rw [List.findIdx_eq_length]
      intro x hx
      rw [decide_eq_false_iff_not]
      intro e; subst e; exact h hx
    omega
theorem at_le {S : List (List Nat)} {t : List Nat} (h0 : 0 < S.length) : at' S t ≤ S.length := by
  unfold at'
  have := List.findIdx_le_length (xs := S.drop 1) (p := fun s => decide (s = t))
  have hl : (S.drop 1).length = S.length - 1 := by simp
  omega
theorem sel_snoc {n : Nat} {S : List (List Nat)} {t : List Nat} (h : Sel n S) (h0 : 0 < S.length) (ht : ∃ c : Nat → Bool, t = (List.range n).filter c) (hm : t ∉ S.drop 1) : Sel n (S ++ [t]) := by
  refine ⟨fun s hs => ?_, ?_⟩
  · rcases List.mem_append.1 hs with hs | hs
    · exact h.1 s hs
    · rw [List.mem_singleton] at hs; subst hs; exact ht
  · rw [List.drop_append_of_le_length (by omega), List.nodup_append]
    refine ⟨h.2, by simp, fun a ha b hb => ?_⟩
    rw [List.mem_singleton] at hb; subst hb
    intro e; subst e; exact hm ha
theorem sel_step {P : Pn} {k : Nat} {fr : List Nat} {st : List (List Nat) × List Int} {b : Nat} (h : Sel P.cl.length st.1) (h0 : 0 < st.1.length) : Sel P.cl.length (step P k fr st b).1 := by
  unfold step
  simp only
  split
  · exact h
  · simp only
    split
    · rename_i e
      exact sel_snoc h h0 ⟨_, rfl⟩ ((at_len h0).1 e)
    · exact h
theorem sel_row {P : Pn} {k : Nat} {fr : List Nat} {S : List (List Nat)} (h : Sel P.cl.length S) (h0 : 0 < S.length) (b : Nat) : Sel P.cl.length (rowK P k fr S b).1 := by
  induction b with
  | zero => exact h
  | succ b ih =>
    rw [rowK_succ]
    exact sel_step ih (Nat.lt_of_lt_of_le h0 (rowK_len_le ..))
theorem sel_sets (P : Pn) (k : Nat) : Sel P.cl.length (sets P k) := by
  induction k with
  | zero => exact sel_one _
  | succ k ih =>
    rw [sets]
    split
    · exact sel_row ih (sets_ne P k) _
    · exact ih
theorem findIdx_pair {α β : Type} [DecidableEq α] [DecidableEq β] (a : α) (b : β) : ∀ (zs : List (α × β)), (∀ z ∈ zs, z.1 = a ↔ z.2 = b) → (zs.map Prod.fst).findIdx (fun x => decide (x = a)) = (zs.map Prod.snd).findIdx (fun y => decide (y = b)) := by
  intro zs
  induction zs with
  | nil => intro _; rfl
  | cons z zs ih =>
    intro h
    have h1 := h z (List.mem_cons_self ..)
    have h2 := ih (fun y hy => h y (List.mem_cons_of_mem _ hy))
    rw [List.map_cons, List.map_cons, List.findIdx_cons, List.findIdx_cons, h2]
    by_cases hz : z.1 = a
    · simp [hz, h1.1 hz]
    · have : ¬ z.2 = b := fun e => hz (h1.2 e)
      simp [hz, this]
theorem words_eq {n : Nat} (hn : n ≤ 256) {s t : List Nat} (hs : ∃ c : Nat → Bool, s = (List.range n).filter c) (ht : ∃ c : Nat → Bool, t = (List.range n).filter c) : ofL s = ofL t ↔ s = t := by
  obtain ⟨c, rfl⟩ := hs
  obtain ⟨d, rfl⟩ := ht
  exact ⟨fun h => sel_ext hn h, fun h => by rw [h]⟩
theorem findIdx_words {n : Nat} (hn : n ≤ 256) {S : List (List Nat)} (h : ∀ s ∈ S, ∃ c : Nat → Bool, s = (List.range n).filter c) {t : List Nat} (ht : ∃ c : Nat → Bool, t = (List.range n).filter c) : (S.map ofL).findIdx (fun x => decide (x = ofL t)) = S.findIdx (fun x => decide (x = t)) := by
  have := findIdx_pair (ofL t) t (S.map fun s => (ofL s, s)) (fun z hz => by
    obtain ⟨s, hs, rfl⟩ := List.mem_map.1 hz
    exact words_eq hn (h s hs) ht)
  simpa [Function.comp_def] using this
theorem words_nodup {n : Nat} (hn : n ≤ 256) : ∀ {S : List (List Nat)}, (∀ s ∈ S, ∃ c : Nat → Bool, s = (List.range n).filter c) → S.Nodup → (S.map ofL).Nodup := by
  intro S
  induction S with
  | nil => intro _ _; simp
  | cons s S ih =>
    intro h hd
    obtain ⟨h1, h2⟩ := List.nodup_cons.1 hd
    rw [List.map_cons, List.nodup_cons]
    refine ⟨fun hm => ?_, ih (fun x hx => h x (.tail _ hx)) h2⟩
    obtain ⟨x, hx, e⟩ := List.mem_map.1 hm
    have := (words_eq hn (h x (.tail _ hx)) (h s (.head _))).1 e
    subst this
    exact h1 hx
/-- The map of the words: what stands in it, and with which number. -/
def tabOf (S : List (List Nat)) : List (List Nat × Int) := tab ((S.map ofL).drop 1)
theorem tabOf_snoc {S : List (List Nat)} (h0 : 0 < S.length) (t : List Nat) : tabOf (S ++ [t]) = (ofL t, (S.length : Int)) :: tabOf S := by
  unfold tabOf
  rw [List.map_append, List.drop_append_of_le_length (by rw [List.length_map]; omega), List.map_singleton, tab_snoc]
  have : ((S.map ofL).drop 1).length + 1 = S.length := by simp; omega
  rw [this]
theorem has_tabOf {n : Nat} (hn : n ≤ 256) {S : List (List Nat)} (h : Sel n S) (h0 : 0 < S.length) {t : List Nat} (ht : ∃ c : Nat → Bool, t = (List.range n).filter c) : hasAt (tabOf S) (ofL t) = decide (at' S t ≠ S.length) := by
  unfold tabOf
  rw [has_tab, Bool.eq_iff_iff, decide_eq_true_iff, Ne, at_len h0, Decidable.not_not, List.any_eq_true, ← List.map_drop]
  constructor
  · rintro ⟨x, hx, e⟩
    obtain ⟨s, hs, rfl⟩ := List.mem_map.1 hx
    rw [decide_eq_true_iff, words_eq hn (h.1 s (List.mem_of_mem_drop hs)) ht] at e
    subst e; exact hs
  · intro hm
    exact ⟨ofL t, List.mem_map.2 ⟨t, hm, rfl⟩, by simp⟩
theorem num_tabOf {n : Nat} (hn : n ≤ 256) {S : List (List Nat)} (h : Sel n S) (h0 : 0 < S.length) {t : List Nat} (ht : ∃ c : Nat → Bool, t = (List.range n).filter c) (hc : at' S t ≠ S.length) : numAt (tabOf S) (ofL t) = (at' S t : Int) := by
  have hs : ∀ s ∈ S.drop 1, ∃ c : Nat → Bool, s = (List.range n).filter c := fun s hs => h.1 s (List.mem_of_mem_drop hs)
  have hf := findIdx_words hn hs ht
  unfold tabOf
  rw [← List.map_drop, num_tab (words_nodup hn hs h.2) ?_, hf]
  · rfl
  · rw [hf, List.length_map]
    intro e
    apply hc
    unfold at'
    rw [e]
    simp; omega
theorem ofL_zero {n : Nat} (hn : n ≤ 256) {t : List Nat} (ht : ∃ c : Nat → Bool, t = (List.range n).filter c) : ofL t = zero ↔ t = [] := by
  have := words_eq hn ht ⟨fun _ => false, (show [] = (List.range n).filter (fun _ => false) by simp)⟩
  exact this
/-! The tags. -/
theorem tagK_spec (ws : List Nat) (la : List Bool) (ru : List Int) : ∀ n, (∀ i, i < n → mem ws i = true → la.getD i false = true → 0 ≤ ru.getD i 0) →
    (tagK la ru ws n = -1 ∧ ∀ i, i < n → mem ws i = true → la.getD i false = true → False) ∨ (∃ i, i < n ∧ mem ws i = true ∧ la.getD i false = true ∧ tagK la ru ws n = ru.getD i 0 ∧ ∀ j, j < n → mem ws j = true → la.getD j false = true → ru.getD i 0 ≤ ru.getD j 0) := by
  intro n
  induction n with
  | zero => intro _; exact .inl ⟨rfl, fun i hi => by omega⟩
  | succ n ih =>
    intro hr
    have ih := ih (fun i hi => hr i (by omega))
    have hrn := hr n (by omega)
    rw [tagK]
    by_cases hc : (mem ws n && la.getD n false && (decide (tagK la ru ws n < 0) || decide (ru.getD n 0 < tagK la ru ws n))) = true
    · rw [if_pos hc]
      simp only [Bool.and_eq_true, Bool.or_eq_true, decide_eq_true_iff] at hc
      obtain ⟨⟨h1, h2⟩, h3⟩ := hc
      refine .inr ⟨n, by omega, h1, h2, rfl, fun j hj hm hl => ?_⟩
      by_cases hjn : j = n
      · subst hjn; exact Int.le_refl _
      · have hj2 : j < n := by omega
        rcases ih with ⟨_, h⟩ | ⟨i, hi, hm2, hl2, e, h⟩
        · exact (h j hj2 hm hl).elim
        · have := h j hj2 hm hl
          have := hr i (by omega) hm2 hl2
          omega
    · rw [if_neg hc]
      simp only [Bool.and_eq_true, Bool.or_eq_true, decide_eq_true_iff] at hc
      rcases ih with ⟨e, h⟩ | ⟨i, hi, hm2, hl2, e, h⟩
      · refine .inl ⟨e, fun j hj hm hl => ?_⟩
        by_cases hjn : j = n
        · subst hjn; exact hc ⟨⟨hm, hl⟩, .inl (by omega)⟩
        · exact h j (by omega) hm hl
      · refine .inr ⟨i, by omega, hm2, hl2, e, fun j hj hm hl => ?_⟩
        by_cases hjn : j = n
        · subst hjn
          have : ¬ (ru.getD j 0 < tagK la ru ws j) := fun h9 => hc ⟨⟨hm, hl⟩, .inr h9⟩
          omega
        · exact h j (by omega) hm hl
theorem least_tag (P : Pn) {n : Nat} {s ws : List Nat} (hs : ∀ y, y ∈ s ↔ y < n ∧ mem ws y = true) (hr : ∀ i, i < n → 0 ≤ P.ru.getD i 0 ∧ P.ru.getD i 0 < P.em.length) : least P s false = tagK P.la P.ru ws n := by
  unfold least
  simp only [Bool.false_and, Bool.false_or]
  rcases tagK_spec ws P.la P.ru n (fun i hi _ _ => (hr i hi).1) with ⟨e, h⟩ | ⟨i, hi, hm, hl, e, h⟩
  · have : (List.range P.em.length).find? (fun (i : Nat) => s.any fun y => decide (P.ru.getD y 0 = (i : Int)) && P.la.getD y false) = none := by
      rw [List.find?_eq_none]
      intro x _ hx
      rw [List.any_eq_true] at hx
      obtain ⟨y, hy, hx⟩ := hx
      simp only [Bool.and_eq_true] at hx
      exact h y ((hs y).1 hy).1 ((hs y).1 hy).2 hx.2
    rw [this, e]
  · have h0 := hr i hi
    have : (List.range P.em.length).find? (fun (i : Nat) => s.any fun y => decide (P.ru.getD y 0 = (i : Int)) && P.la.getD y false) = some (P.ru.getD i 0).toNat := by
      rw [List.find?_range_eq_some]
      refine ⟨?_, List.mem_range.2 (by omega), fun j hj => ?_⟩
      · rw [List.any_eq_true]
        refine ⟨i, (hs i).2 ⟨hi, hm⟩, ?_⟩
        simp only [Bool.and_eq_true, decide_eq_true_iff]
        exact ⟨by omega, hl⟩
      · rw [Bool.not_eq_true', Bool.eq_false_iff]
        intro hx
        rw [List.any_eq_true] at hx
        obtain ⟨y, hy, hx⟩ := hx
        simp only [Bool.and_eq_true, decide_eq_true_iff] at hx
        have := h y ((hs y).1 hy).1 ((hs y).1 hy).2 hx.2
        omega
    rw [this, e]
    show (((P.ru.getD i 0).toNat : Nat) : Int) = _
    omega
theorem least_words (P : Pn) (hn : P.cl.length ≤ 256) {t : List Nat} (ht : ∃ c : Nat → Bool, t = (List.range P.cl.length).filter c) (hr : ∀ i, i < P.cl.length → 0 ≤ P.ru.getD i 0 ∧ P.ru.getD i 0 < P.em.length) : least P t false = tagK P.la P.ru (ofL t) P.cl.length := by
  refine least_tag P (fun y => ?_) hr
  obtain ⟨c, rfl⟩ := ht
  have hb : ∀ x ∈ (List.range P.cl.length).filter c, x < 256 := fun x hx => by have := List.mem_range.1 (List.mem_filter.1 hx).1; omega
  constructor
  · intro hy
    have hyn := List.mem_range.1 (List.mem_filter.1 hy).1
    refine ⟨hyn, ?_⟩
    rw [mem_ofL hb (by omega), List.contains_iff_mem]; exact hy
  · rintro ⟨hyn, hm⟩
    rw [mem_ofL hb (by omega), List.contains_iff_mem] at hm; exact hm
/-- The first state's tag, from the last rule to the first. -/
def tag0 (em : List Bool) : Nat → Int
  | 0 => -1
  | j + 1 => if em.getD (em.length - 1 - j) false = true then ((em.length - 1 - j : Nat) : Int) else tag0 em j
theorem tag0_least (P : Pn) : tag0 P.em P.em.length = least P [] true := by
  have key : ∀ j, j ≤ P.em.length → tag0 P.em j = (match (List.range P.em.length).find? (fun i => decide (P.em.length - j ≤ i) && P.em.getD i false) with | some i => (i : Int) | none => -1) := by
    intro j
    induction j with
    | zero =>
      intro _
      have : (List.range P.em.length).find? (fun i => decide (P.em.length - 0 ≤ i) && P.em.getD i false) = none := by
        rw [List.find?_eq_none]
        intro x hx
        have := List.mem_range.1 hx
        simp; omega
      rw [this]; rfl
    | succ j ih =>
      intro hj
      rw [tag0, ih (by omega)]
      by_cases he : P.em.getD (P.em.length - 1 - j) false = true
      · rw [if_pos he]
        have : (List.range P.em.length).find? (fun i => decide (P.em.length - (j + 1) ≤ i) && P.em.getD i false) = some (P.em.length - 1 - j) := by
          rw [List.find?_range_eq_some]
          refine ⟨?_, List.mem_range.2 (by omega), fun i hi => ?_⟩
          · rw [he, Bool.and_true, decide_eq_true_iff]; omega
          · have : ¬ (P.em.length - (j + 1) ≤ i) := by omega
            simp [this]
        rw [this]
      · rw [if_neg he]
        have : (fun (i : Nat) => decide (P.em.length - (j + 1) ≤ i) && P.em.getD i false) = (fun (i : Nat) => decide (P.em.length - j ≤ i) && P.em.getD i false) := by
          funext i
          by_cases hi : i = P.em.length - 1 - j
          · subst hi
            rw [Bool.not_eq_true] at he
            rw [he, Bool.and_false, Bool.and_false]
          · congr 1
            rw [Bool.eq_iff_iff, decide_eq_true_iff, decide_eq_true_iff]
            omega
        rw [this]
  rw [key _ (Nat.le_refl _)]
  unfold least
  simp
  rfl
end Dm
end Go.Proofs.Ytlgabpcddldelaa
