/-
  What tells two automata apart: the queue of pairs of states. (Plain functions; nothing of the program is claimed.)
-/
import Derived.Test.YtbpjmdemmmdnbaaMapView
import Derived.Test.YtbpjmdemmmdnbaaDfaTag
namespace Go.Proofs.Ytbpjmdemmmdnbaa
set_option linter.unusedVariables false

namespace Ap
abbrev Pr := Int × Int
/-- A pair of states; which one it came from; by which byte. -/
abbrev It := Pr × Int × Int
/-- Two automata's rows and tags. -/
structure Two where
  r1 : List (List Int)
  t1 : List Int
  r2 : List (List Int)
  t2 : List Int
def goTo (rows : List (List Int)) (n : Int) (c : Nat) : Int := if n < 0 then -1 else (rows.getD n.toNat []).getD c 0
def nxt (D : Two) (x : Pr) (c : Nat) : Pr := (goTo D.r1 x.1 c, goTo D.r2 x.2 c)
def diff (D : Two) (x : Pr) : Bool := decide (Aut.tagOf D.t1 x.1 ≠ Aut.tagOf D.t2 x.2)
def z0 : It := ((0, 0), -1, 0)
def has (S : List It) (q : Pr) : Bool := S.any fun i => decide (i.1 = q)
def add1 (D : Two) (x : Pr) (n : Nat) (S : List It) (c : Nat) : List It := if has S (nxt D x c) then S else S ++ [(nxt D x c, (n : Int), (c : Int))]
/-- The queue, when item n (of the pair x) has turned to k bytes. -/
def growK (D : Two) (x : Pr) (n : Nat) (S : List It) (k : Nat) : List It := (List.range k).foldl (add1 D x n) S
theorem growK_zero (D : Two) (x : Pr) (n : Nat) (S : List It) : growK D x n S 0 = S := rfl
theorem growK_succ (D : Two) (x : Pr) (n : Nat) (S : List It) (k : Nat) : growK D x n S (k + 1) = add1 D x n (growK D x n S k) k := by
  unfold growK; rw [List.range_succ, List.foldl_append]; rfl
def at' (S : List It) (i : Nat) : It := S.getD i z0
def grow (D : Two) (S : List It) (n : Nat) : List It := growK D (at' S n).1 n S 256
/-- The queue, k items of it done. -/
def Q (D : Two) : Nat → List It
  | 0 => [z0]
  | k + 1 => if k < (Q D k).length then grow D (Q D k) k else Q D k
theorem Q_succ {D : Two} {k : Nat} (h : k < (Q D k).length) : Q D (k + 1) = grow D (Q D k) k := by rw [Q, if_pos h]

/-- What holds of every queue. -/
structure Ok (D : Two) (S : List It) : Prop where
  ne : 0 < S.length
  zero : at' S 0 = z0
  up : ∀ i, 0 < i → i < S.length → 0 ≤ (at' S i).2.1 ∧ (at' S i).2.1 < i
  by_ : ∀ i, i < S.length → 0 ≤ (at' S i).2.2 ∧ (at' S i).2.2 < 256
  rg : ∀ i, i < S.length → -1 ≤ (at' S i).1.1 ∧ (at' S i).1.1 < D.r1.length ∧ -1 ≤ (at' S i).1.2 ∧ (at' S i).1.2 < D.r2.length
  nd : (S.map (·.1)).Nodup
/-- The automata are right. -/
structure Good (D : Two) : Prop where
  n1 : D.r1.length ≤ 200
  n2 : D.r2.length ≤ 200
  p1 : 0 < D.r1.length
  p2 : 0 < D.r2.length
  g1 : ∀ i, i < D.r1.length → ∀ c, c < 256 → -1 ≤ (D.r1.getD i []).getD c 0 ∧ (D.r1.getD i []).getD c 0 < D.r1.length
  g2 : ∀ i, i < D.r2.length → ∀ c, c < 256 → -1 ≤ (D.r2.getD i []).getD c 0 ∧ (D.r2.getD i []).getD c 0 < D.r2.length
theorem goTo_rg {rows : List (List Int)} (hg : ∀ i, i < rows.length → ∀ c, c < 256 → -1 ≤ (rows.getD i []).getD c 0 ∧ (rows.getD i []).getD c 0 < rows.length) {n : Int} {c : Nat} (h0 : -1 ≤ n) (h1 : n < rows.length) (hc : c < 256) : -1 ≤ goTo rows n c ∧ goTo rows n c < rows.length := by
  unfold goTo
  split
  · omega
  · exact hg n.toNat (by omega) c hc
theorem has_iff {S : List It} {q : Pr} : has S q = true ↔ q ∈ S.map (·.1) := by
  unfold has
  rw [List.any_eq_true, List.mem_map]
  constructor
  · rintro ⟨x, h1, h2⟩; exact ⟨x, h1, by simpa using h2⟩
  · rintro ⟨x, h1, h2⟩; exact ⟨x, h1, by simpa using h2⟩
theorem at_append {S T : List It} {i : Nat} (h : i < S.length) : at' (S ++ T) i = at' S i := by
  simp [at', List.getD, List.getElem?_append_left h]
theorem at_snoc {S : List It} {x : It} : at' (S ++ [x]) S.length = x := by simp [at', List.getD]
theorem ok_add {D : Two} (hg : Good D) {S : List It} (h : Ok D S) {x : Pr} {n c : Nat} (hn : n < S.length) (hx : x = (at' S n).1) (hc : c < 256) : Ok D (add1 D x n S c) := by
  unfold add1
  split
  · exact h
  · rename_i hq
    have hr := h.rg n hn
    rw [← hx] at hr
    have t1 := goTo_rg hg.g1 hr.1 hr.2.1 hc
    have t2 := goTo_rg hg.g2 hr.2.2.1 hr.2.2.2 hc
    refine ⟨by simp, by rw [at_append h.ne]; exact h.zero, fun i hi hl => ?_, fun i hl => ?_, fun i hl => ?_, ?_⟩
    · by_cases e : i < S.length
      · rw [at_append e]; exact h.up i hi e
      · obtain rfl : i = S.length := by simp at hl; omega
        rw [at_snoc]; simp only; omega
    · by_cases e : i < S.length
      · rw [at_append e]; exact h.by_ i e
      · obtain rfl : i = S.length := by simp at hl; omega
        rw [at_snoc]; simp only; omega
    · by_cases e : i < S.length
      · rw [at_append e]; exact h.rg i e
      · obtain rfl : i = S.length := by simp at hl; omega
        rw [at_snoc]; exact ⟨t1.1, t1.2, t2.1, t2.2⟩
    · rw [List.map_append, List.nodup_append]
      refine ⟨h.nd, by simp, fun a ha b hb e => ?_⟩
      simp only [List.map_cons, List.map_nil, List.mem_singleton] at hb
      subst e
      rw [hb] at ha
      exact hq (has_iff.2 ha)
theorem add_prefix (D : Two) (x : Pr) (n : Nat) (S : List It) (c : Nat) : ∃ T, add1 D x n S c = S ++ T := by
  unfold add1
  split
  · exact ⟨[], by simp⟩
  · exact ⟨_, rfl⟩
theorem growK_prefix (D : Two) (x : Pr) (n : Nat) (S : List It) (k : Nat) : ∃ T, growK D x n S k = S ++ T := by
  induction k with
  | zero => exact ⟨[], by simp [growK_zero]⟩
  | succ k ih =>
    obtain ⟨T, hT⟩ := ih
    obtain ⟨T2, hT2⟩ := add_prefix D x n (growK D x n S k) k
    exact ⟨T ++ T2, by rw [growK_succ, hT2, hT, List.append_assoc]⟩
theorem growK_len (D : Two) (x : Pr) (n : Nat) (S : List It) (k : Nat) : S.length ≤ (growK D x n S k).length := by
  obtain ⟨T, hT⟩ := growK_prefix D x n S k
  rw [hT]; simp
theorem growK_at {D : Two} {x : Pr} {n : Nat} {S : List It} {k i : Nat} (h : i < S.length) : at' (growK D x n S k) i = at' S i := by
  obtain ⟨T, hT⟩ := growK_prefix D x n S k
  rw [hT, at_append h]
theorem ok_growK {D : Two} (hg : Good D) {S : List It} (h : Ok D S) {n k : Nat} (hn : n < S.length) (hk : k ≤ 256) : Ok D (growK D (at' S n).1 n S k) := by
  induction k with
  | zero => exact h
  | succ k ih =>
    rw [growK_succ]
    exact ok_add hg (ih (by omega)) (Nat.lt_of_lt_of_le hn (growK_len ..)) (by rw [growK_at hn]) (by omega)
theorem ok_init {D : Two} (hg : Good D) : Ok D [z0] := by
  have := hg.p1; have := hg.p2
  refine ⟨by simp, rfl, fun i h1 h2 => by simp at h2; omega, fun i hi => ?_, fun i hi => ?_, by simp⟩
  · obtain rfl : i = 0 := by simpa using hi
    decide
  · obtain rfl : i = 0 := by simpa using hi
    show -1 ≤ (0 : Int) ∧ (0 : Int) < _ ∧ -1 ≤ (0 : Int) ∧ (0 : Int) < _
    omega
theorem ok_Q {D : Two} (hg : Good D) (k : Nat) : Ok D (Q D k) := by
  induction k with
  | zero => exact ok_init hg
  | succ k ih =>
    rw [Q]
    split
    · exact ok_growK hg ih (by assumption) (Nat.le_refl _)
    · exact ih
theorem Q_at {D : Two} {k i : Nat} (h : i < (Q D k).length) : at' (Q D (k + 1)) i = at' (Q D k) i ∧ i < (Q D (k + 1)).length := by
  rw [Q]
  split
  · exact ⟨growK_at h, Nat.lt_of_lt_of_le h (growK_len ..)⟩
  · exact ⟨rfl, h⟩
theorem Q_at_le {D : Two} {k m i : Nat} (hkm : k ≤ m) (h : i < (Q D k).length) : at' (Q D m) i = at' (Q D k) i ∧ i < (Q D m).length := by
  induction hkm with
  | refl => exact ⟨rfl, h⟩
  | step hm ih => exact ⟨(Q_at ih.2).1.trans ih.1, (Q_at ih.2).2⟩
/-- No queue is longer than there are pairs. -/
theorem ok_len {D : Two} (hg : Good D) {S : List It} (h : Ok D S) : S.length ≤ (D.r1.length + 1) * (D.r2.length + 1) := by
  have key : (S.map fun i => (i.1.1 + 1).toNat * (D.r2.length + 1) + (i.1.2 + 1).toNat).Nodup := by
    rw [List.Nodup, List.pairwise_map]
    have h2 := h.nd
    rw [List.Nodup, List.pairwise_map] at h2
    rw [List.pairwise_iff_getElem] at h2 ⊢
    intro i j hi hj hij e
    apply h2 i j hi hj hij
    have a1 := h.rg i hi
    have a2 := h.rg j hj
    rw [show at' S i = S[i] by simp [at', List.getD, List.getElem?_eq_getElem hi]] at a1
    rw [show at' S j = S[j] by simp [at', List.getD, List.getElem?_eq_getElem hj]] at a2
    have hm : ∀ a b : Nat, b < D.r2.length + 1 → (a * (D.r2.length + 1) + b) / (D.r2.length + 1) = a := fun a b hb => by
      rw [Nat.add_comm, Nat.add_mul_div_right _ _ (by omega), Nat.div_eq_of_lt hb, Nat.zero_add]
    have e1 := congrArg (· / (D.r2.length + 1)) e
    simp only [hm _ _ (show (S[i].1.2 + 1).toNat < D.r2.length + 1 by omega), hm _ _ (show (S[j].1.2 + 1).toNat < D.r2.length + 1 by omega)] at e1
    rw [e1] at e
    have e2 : (S[i].1.2 + 1).toNat = (S[j].1.2 + 1).toNat := by omega
    apply Prod.ext <;> omega
  have := key.length_le_of_subset (l₂ := List.range ((D.r1.length + 1) * (D.r2.length + 1))) (fun x hx => by
    obtain ⟨it, hit, rfl⟩ := List.mem_map.1 hx
    obtain ⟨i, hi, rfl⟩ := List.getElem_of_mem hit
    have a1 := h.rg i hi
    rw [show at' S i = S[i] by simp [at', List.getD, List.getElem?_eq_getElem hi]] at a1
    rw [List.mem_range]
    have h1 : (S[i].1.1 + 1).toNat + 1 ≤ D.r1.length + 1 := by omega
    have h3 := Nat.mul_le_mul_right (D.r2.length + 1) h1
    rw [Nat.add_mul, Nat.one_mul] at h3
    omega)
  simpa using this
theorem ok_small {D : Two} (hg : Good D) {S : List It} (h : Ok D S) : (S.length : Int) ≤ 40401 := by
  have := ok_len hg h
  have h2 : (D.r1.length + 1) * (D.r2.length + 1) ≤ 201 * 201 := Nat.mul_le_mul (by have := hg.n1; omega) (by have := hg.n2; omega)
  omega

/-- The bytes that lead to an item, the last one first. -/
def path (S : List It) : Nat → Nat → List Int
  | 0, _ => []
  | f + 1, i => if (at' S i).2.1 < 0 then [] else (at' S i).2.2 :: path S f (at' S i).2.1.toNat
theorem path_stop {D : Two} {S : List It} (h : Ok D S) (f : Nat) : path S f 0 = [] := by
  cases f with
  | zero => rfl
  | succ f => rw [path, h.zero, if_pos (by decide)]
theorem path_fuel {D : Two} {S : List It} (h : Ok D S) : ∀ (i : Nat), i < S.length → ∀ f g, i ≤ f → i ≤ g → path S f i = path S g i := by
  intro i
  induction i using Nat.strongRecOn with
  | ind i ih =>
    intro hi f g hf hg
    by_cases h0 : i = 0
    · subst h0; rw [path_stop h, path_stop h]
    · obtain ⟨f, rfl⟩ : ∃ f', f = f' + 1 := ⟨f - 1, by omega⟩
      obtain ⟨g, rfl⟩ : ∃ g', g = g' + 1 := ⟨g - 1, by omega⟩
      have hu := h.up i (by omega) hi
      rw [path, path, if_neg (by omega), if_neg (by omega)]
      rw [ih (at' S i).2.1.toNat (by omega) (by omega) f g (by omega) (by omega)]
def txt (S : List It) (i : Nat) : List Int := (path S i i).reverse
theorem txt_zero {D : Two} {S : List It} (h : Ok D S) : txt S 0 = [] := by rw [txt, path_stop h]; rfl
theorem path_len (S : List It) (f i : Nat) : (path S f i).length ≤ f := by
  induction f generalizing i with
  | zero => simp [path]
  | succ f ih =>
    rw [path]
    split
    · simp
    · simp only [List.length_cons]
      have := ih (at' S i).2.1.toNat
      omega
theorem path_by {D : Two} {S : List It} (h : Ok D S) : ∀ f i, i < S.length → ∀ x ∈ path S f i, 0 ≤ x ∧ x < 256 := by
  intro f
  induction f with
  | zero => intro i _ x hx; cases hx
  | succ f ih =>
    intro i hi x hx
    rw [path] at hx
    split at hx
    · cases hx
    · rcases List.mem_cons.1 hx with rfl | hx
      · exact h.by_ i hi
      · refine ih _ ?_ x hx
        by_cases h0 : i = 0
        · subst h0; rw [h.zero] at *; simp [z0] at *
        · have := h.up i (by omega) hi; omega
theorem path_append {D : Two} {S T : List It} (h : Ok D S) : ∀ f i, i < S.length → path (S ++ T) f i = path S f i := by
  intro f
  induction f with
  | zero => intro i _; rfl
  | succ f ih =>
    intro i hi
    rw [path, path, at_append hi]
    split
    · rfl
    · rw [ih]
      by_cases h0 : i = 0
      · subst h0; rw [h.zero] at *; simp [z0] at *
      · have := h.up i (by omega) hi; omega
theorem txt_append {D : Two} {S T : List It} (h : Ok D S) {i : Nat} (hi : i < S.length) : txt (S ++ T) i = txt S i := by rw [txt, txt, path_append h _ _ hi]
/-- An item's text: that of the one it came from, and its byte. -/
theorem txt_step {D : Two} {S : List It} (h : Ok D S) {i : Nat} (h0 : 0 < i) (hi : i < S.length) : txt S i = txt S (at' S i).2.1.toNat ++ [(at' S i).2.2] := by
  obtain ⟨i, rfl⟩ : ∃ j, i = j + 1 := ⟨i - 1, by omega⟩
  have hu := h.up (i + 1) h0 hi
  unfold txt
  rw [path, if_neg (by omega), List.reverse_cons]
  rw [path_fuel h (at' S (i + 1)).2.1.toNat (by omega) i (at' S (i + 1)).2.1.toNat (by omega) (by omega)]
theorem path_step {D : Two} {S : List It} (h : Ok D S) {i : Nat} (h0 : 0 < i) (hi : i < S.length) : path S i i = (at' S i).2.2 :: path S (at' S i).2.1.toNat (at' S i).2.1.toNat := by
  obtain ⟨i, rfl⟩ : ∃ j, i = j + 1 := ⟨i - 1, by omega⟩
  have hu := h.up (i + 1) h0 hi
  rw [path, if_neg (by omega)]
  rw [path_fuel h (at' S (i + 1)).2.1.toNat (by omega) i (at' S (i + 1)).2.1.toNat (by omega) (by omega)]

/-- What is answered: the text of the first item of all whose tags differ. -/
def Says (D : Two) (l : List Int) (is : Bool) : Prop :=
  ∃ k, (∀ j, j < k → diff D (at' (Q D k) j).1 = false) ∧ ((k < (Q D k).length ∧ diff D (at' (Q D k) k).1 = true ∧ l = txt (Q D k) k ∧ is = true) ∨ (k = (Q D k).length ∧ l = [] ∧ is = false))
theorem Q_stop {D : Two} {k m : Nat} (h : k = (Q D k).length) (hm : k ≤ m) : Q D m = Q D k := by
  induction hm with
  | refl => rfl
  | step hm ih =>
    rename_i m
    rw [Q, ih]
    have : k ≤ m := hm
    rw [if_neg (by omega)]
theorem Says.one {D : Two} {l l' : List Int} {is is' : Bool} (h : Says D l is) (h' : Says D l' is') : l = l' ∧ is = is' := by
  have lt : ∀ {k k' : Nat} {l l' : List Int} {is is' : Bool}, k < k' →
      ((k < (Q D k).length ∧ diff D (at' (Q D k) k).1 = true ∧ l = txt (Q D k) k ∧ is = true) ∨ (k = (Q D k).length ∧ l = [] ∧ is = false)) →
      (∀ j, j < k' → diff D (at' (Q D k') j).1 = false) →
      ((k' < (Q D k').length ∧ diff D (at' (Q D k') k').1 = true ∧ l' = txt (Q D k') k' ∧ is' = true) ∨ (k' = (Q D k').length ∧ l' = [] ∧ is' = false)) → False := by
    intro k k' l l' is is' hlt h1 h2 h3
    rcases h1 with ⟨a, b, _⟩ | ⟨a, _⟩
    · have := h2 k hlt
      rw [(Q_at_le (Nat.le_of_lt hlt) a).1, b] at this
      cases this
    · have e := Q_stop a (Nat.le_of_lt hlt)
      rcases h3 with ⟨c, _⟩ | ⟨c, _⟩ <;> rw [e] at c <;> omega
  obtain ⟨k, h1, h2⟩ := h
  obtain ⟨k', h1', h2'⟩ := h'
  rcases Nat.lt_trichotomy k k' with hk | hk | hk
  · exact (lt hk h2 h1' h2').elim
  · subst hk
    rcases h2 with ⟨a, b, c, d⟩ | ⟨a, b, c⟩ <;> rcases h2' with ⟨a', b', c', d'⟩ | ⟨a', b', c'⟩
    · exact ⟨by rw [c, c'], by rw [d, d']⟩
    · omega
    · omega
    · exact ⟨by rw [b, b'], by rw [c, c']⟩
  · exact (lt hk h2' h1 h2).elim
end Ap
end Go.Proofs.Ytbpjmdemmmdnbaa
