/-
  Trees out of their events, from below. (Plain functions; nothing of the program is claimed.)
-/
import Derived.Test.YtldapomcjfkeeaaTrQ
namespace Go.Proofs.Ytldapomcjfkeeaa
set_option linter.unusedVariables false

namespace Tr
abbrev Part := Tr × Int
/-- May it stand at a symbol? -/
def fits (q : Part) (y : Int × Int) : Bool := (decide (y.1 = 1) == decide (q.2 < 0)) && (decide (q.2 < 0) || decide (q.2 = y.2))
def fitsL : List Part → List (Int × Int) → Bool
  | [], [] => true
  | q :: qs, y :: ys => fits q y && fitsL qs ys
  | _, _ => false
abbrev St2 := List Part × Nat
/-- One event. -/
def step (G : Gm) : Option St2 → Ev → Option St2
  | none, _ => none
  | some st, e =>
    if e.1 = 2 ∧ e.2 = (st.2 : Int) then some (st.1 ++ [(.mk (-1) (st.2 : Int) [], -1)], st.2 + 1)
    else if e.1 = 4 ∧ 0 ≤ e.2 ∧ e.2 < G.length then
      (if st.1.length < (G.getD e.2.toNat (0, [])).2.length then none
       else if fitsL (st.1.drop (st.1.length - (G.getD e.2.toNat (0, [])).2.length)) (G.getD e.2.toNat (0, [])).2 = true then
         some (st.1.take (st.1.length - (G.getD e.2.toNat (0, [])).2.length) ++ [(.mk e.2 0 ((st.1.drop (st.1.length - (G.getD e.2.toNat (0, [])).2.length)).map (·.1)), (G.getD e.2.toNat (0, [])).1)], st.2)
       else none)
    else none
def up (G : Gm) (s : List Ev) : Option St2 := s.foldl (step G) (some ([], 0))
theorem up_snoc (G : Gm) (s : List Ev) (e : Ev) : up G (s ++ [e]) = step G (up G s) e := by unfold up; rw [List.foldl_append]; rfl
theorem step_none (G : Gm) (s : List Ev) : s.foldl (step G) none = none := by
  induction s with
  | nil => rfl
  | cons e s ih => exact ih
/-- What stands on the stack, and the events of it. -/
inductive Stk (G : Gm) : List Part → List Ev → Prop
  | nil : Stk G [] []
  | leaf {ps s} (n : Int) : Stk G ps s → Stk G (ps ++ [(.mk (-1) n [], -1)]) (s ++ [(2, n)])
  | node {ps qs s} (n : Int) : 0 ≤ n → n < G.length → fitsL qs (G.getD n.toNat (0, [])).2 = true → Stk G (ps ++ qs) s → Stk G (ps ++ [(.mk n 0 (qs.map (·.1)), (G.getD n.toNat (0, [])).1)]) (s ++ [(4, n)])
theorem fitsL_len : ∀ {qs : List Part} {ys : List (Int × Int)}, fitsL qs ys = true → qs.length = ys.length := by
  intro qs
  induction qs with
  | nil => intro ys h; cases ys with
    | nil => rfl
    | cons y ys => simp [fitsL] at h
  | cons q qs ih => intro ys h; cases ys with
    | nil => simp [fitsL] at h
    | cons y ys =>
      simp only [fitsL, Bool.and_eq_true] at h
      simp [ih h.2]
theorem up_sound {G : Gm} (s : List Ev) : ∀ st, up G s = some st → Stk G st.1 s ∧ ord s 0 = true ∧ st.2 = cnt s := by
  have key : ∀ (n : Nat) (s : List Ev), s.length = n → ∀ st, up G s = some st → Stk G st.1 s ∧ ord s 0 = true ∧ st.2 = cnt s := by
    intro n
    induction n with
    | zero =>
      intro s hs st h
      obtain rfl := List.eq_nil_of_length_eq_zero hs
      cases h
      exact ⟨.nil, rfl, rfl⟩
    | succ n ih =>
      intro s hs st h
      have hne : s ≠ [] := by rintro rfl; cases hs
      obtain ⟨s', e, rfl⟩ : ∃ s' e, s = s' ++ [e] := ⟨s.dropLast, s.getLast hne, (List.dropLast_concat_getLast hne).symm⟩
      rw [up_snoc] at h
      rw [List.length_append, List.length_singleton] at hs
      cases hu : up G s' with
      | none => rw [hu] at h; cases h
      | some st' =>
        rw [hu] at h
        obtain ⟨i1, i2, i3⟩ := ih s' (by omega) st' hu
        obtain ⟨ps, c⟩ := st'
        simp only [step] at h
        simp only at i1 i3
        obtain ⟨e1, e2⟩ := e
        simp only at h
        split at h
        · rename_i hc
          obtain ⟨rfl, rfl⟩ := hc
          cases h
          refine ⟨.leaf _ i1, ?_, by simp [cnt_append, cnt, i3]⟩
          rw [ord_append, i2]
          simp [ord, i3]
        · split at h
          · rename_i hc hd
            obtain ⟨rfl, h0, h1⟩ := hd
            split at h
            · cases h
            · rename_i hl
              split at h
              · rename_i hf
                cases h
                refine ⟨.node _ h0 h1 hf ?_, ?_, by simp [cnt_append, cnt, i3]⟩
                · rw [List.take_append_drop]; exact i1
                · rw [ord_append, i2]; simp [ord]
              · cases h
          · cases h
  intro st h
  exact key s.length s rfl st h
theorem up_complete {G : Gm} {ps : List Part} {s : List Ev} (h : Stk G ps s) : ord s 0 = true → up G s = some (ps, cnt s) := by
  induction h with
  | nil => intro _; rfl
  | @leaf ps s n h ih =>
    intro ho
    rw [ord_append] at ho
    simp only [Bool.and_eq_true, ord, Nat.zero_add, Bool.and_true, if_true, decide_eq_true_eq] at ho
    rw [up_snoc, ih ho.1, step]
    have h2 := ho.2
    rw [if_pos ⟨rfl, h2⟩]
    simp [cnt_append, cnt, h2]
  | @node ps qs s n h0 h1 hf h ih =>
    intro ho
    rw [ord_append] at ho
    simp only [Bool.and_eq_true] at ho
    have hl := fitsL_len hf
    rw [up_snoc, ih ho.1, step]
    have e1 : (ps ++ qs).length - (G.getD n.toNat (0, [])).2.length = ps.length := by rw [List.length_append]; omega
    simp only
    rw [if_neg (by simp), if_pos ⟨by first | rfl | trivial, h0, h1⟩, if_neg (by rw [List.length_append]; omega), e1, List.drop_left, List.take_left, if_pos hf]
    simp [cnt_append, cnt]

/-- The kids, the last one first. -/
def ruK (g : (Int × Int) → List Ev → Option (Tr × List Ev)) : List (Int × Int) → List Ev → Option (List Tr × List Ev)
  | [], s => some ([], s)
  | y :: b, s => match g y s with
    | none => none
    | some q => match ruK g b q.2 with
      | none => none
      | some r => some (r.1 ++ [q.1], r.2)
/-- The node at a symbol whose events, the last one first, are ahead. -/
def ru (G : Gm) : Nat → (Int × Int) → List Ev → Option (Tr × List Ev)
  | 0, _, _ => none
  | _ + 1, _, [] => none
  | f + 1, x, e :: s =>
    if x.1 = 1 then (if e.1 = 2 then some (.mk (-1) e.2 [], s) else none)
    else if e.1 = 4 ∧ 0 ≤ e.2 ∧ e.2 < G.length ∧ (G.getD e.2.toNat (0, [])).1 = x.2 then
      match ruK (ru G f) (G.getD e.2.toNat (0, [])).2.reverse s with
      | none => none
      | some r => some (.mk e.2 0 r.1, r.2)
    else none
theorem fitsL_snoc {qs : List Part} : ∀ {ys : List (Int × Int)} {q : Part} {y : Int × Int}, qs.length = ys.length → fitsL (qs ++ [q]) (ys ++ [y]) = (fitsL qs ys && fits q y) := by
  induction qs with
  | nil => intro ys q y h; cases ys with
    | nil => simp [fitsL]
    | cons _ _ => simp at h
  | cons p qs ih => intro ys q y h; cases ys with
    | nil => simp at h
    | cons z ys => simp only [List.cons_append, fitsL, ih (by simpa using h), Bool.and_assoc]
theorem stk_last {G : Gm} {ps : List Part} {q : Part} {s : List Ev} (h : Stk G (ps ++ [q]) s) :
    (∃ (n : Int) (s' : List Ev), q = (.mk (-1) n [], -1) ∧ s = s' ++ [(2, n)] ∧ Stk G ps s') ∨ ∃ (n : Int) (qs : List Part) (s' : List Ev), 0 ≤ n ∧ n < G.length ∧ fitsL qs (G.getD n.toNat (0, [])).2 = true ∧ q = (.mk n 0 (qs.map (·.1)), (G.getD n.toNat (0, [])).1) ∧ s = s' ++ [(4, n)] ∧ Stk G (ps ++ qs) s' := by
  generalize hp : ps ++ [q] = ps' at h
  cases h with
  | nil => simp at hp
  | @leaf ps2 s' n h =>
    obtain ⟨h1, h2⟩ := List.append_inj' hp rfl
    cases h2
    subst h1
    exact .inl ⟨n, s', rfl, rfl, h⟩
  | @node ps2 qs s' n h0 h1 hf h =>
    obtain ⟨h3, h2⟩ := List.append_inj' hp rfl
    cases h2
    subst h3
    exact .inr ⟨n, qs, s', h0, h1, hf, rfl, rfl, h⟩
theorem stk_nil {G : Gm} {s : List Ev} (h : Stk G [] s) : s = [] := by
  generalize hp : ([] : List Part) = ps' at h
  cases h with
  | nil => rfl
  | leaf n h => simp at hp
  | node n h0 h1 hf h => simp at hp
theorem fits_iff {q : Part} {y : Int × Int} (h : fits q y = true) : (y.1 = 1 ↔ q.2 < 0) ∧ (q.2 < 0 ∨ q.2 = y.2) := by
  simp only [fits, Bool.and_eq_true, Bool.or_eq_true, decide_eq_true_eq, beq_iff_eq] at h
  refine ⟨?_, h.2⟩
  have h1 := h.1
  by_cases a : y.1 = 1 <;> by_cases b : q.2 < 0 <;> simp_all
theorem fits_mk {q : Part} {y : Int × Int} (h : (y.1 = 1 ↔ q.2 < 0) ∧ (q.2 < 0 ∨ q.2 = y.2)) : fits q y = true := by
  simp only [fits, Bool.and_eq_true, Bool.or_eq_true, decide_eq_true_eq, beq_iff_eq]
  refine ⟨?_, h.2⟩
  have h1 := h.1
  by_cases a : y.1 = 1 <;> by_cases b : q.2 < 0 <;> simp_all
section
variable {G : Gm} (hG : ∀ p ∈ G, 0 ≤ p.1)
include hG
theorem head_pos {n : Int} (h0 : 0 ≤ n) (h1 : n < G.length) : 0 ≤ (G.getD n.toNat (0, [])).1 := by
  have : n.toNat < G.length := by omega
  apply hG
  simp [List.getD, List.getElem?_eq_getElem this]
/-- What stands on the stack is found. -/
theorem ru_finds : ∀ (f : Nat) (ps : List Part) (q : Part) (s : List Ev) (x : Int × Int), s.length < f → Stk G (ps ++ [q]) s → fits q x = true → ∃ s', ru G f x s.reverse = some (q.1, s'.reverse) ∧ Stk G ps s' ∧ s'.length < s.length := by
  intro f
  induction f with
  | zero => intro ps q s x h; omega
  | succ f ih =>
    intro ps q s x hl hs hf
    obtain ⟨f1, f2⟩ := fits_iff hf
    rcases stk_last hs with ⟨n, s', rfl, rfl, h⟩ | ⟨n, qs, s', h0, h1, hq, rfl, rfl, h⟩
    · refine ⟨s', ?_, h, by simp⟩
      rw [List.reverse_append]
      simp only [List.reverse_cons, List.reverse_nil, List.nil_append, List.singleton_append]
      rw [ru, if_pos (f1.2 (by show (-1 : Int) < 0; decide)), if_pos rfl]
    · have hp := head_pos hG h0 h1
      simp only at f1 f2
      rw [List.length_append, List.length_singleton] at hl
      have key : ∀ (ys : List (Int × Int)) (qs : List Part) (s' : List Ev), s'.length < f → fitsL qs ys = true → Stk G (ps ++ qs) s' → ∃ s'', ruK (ru G f) ys.reverse s'.reverse = some (qs.map (·.1), s''.reverse) ∧ Stk G ps s'' ∧ s''.length ≤ s'.length := by
        intro ys
        have : ∀ (k : Nat) (ys : List (Int × Int)) (qs : List Part) (s' : List Ev), ys.length = k → s'.length < f → fitsL qs ys = true → Stk G (ps ++ qs) s' → ∃ s'', ruK (ru G f) ys.reverse s'.reverse = some (qs.map (·.1), s''.reverse) ∧ Stk G ps s'' ∧ s''.length ≤ s'.length := by
          intro k
          induction k with
          | zero =>
            intro ys qs s' hk _ hq hs
            obtain rfl := List.eq_nil_of_length_eq_zero hk
            have := fitsL_len hq
            obtain rfl := List.eq_nil_of_length_eq_zero this
            rw [List.append_nil] at hs
            exact ⟨s', rfl, hs, Nat.le_refl _⟩
          | succ k ihk =>
            intro ys qs s' hk hlf hq hs
            have hlen := fitsL_len hq
            have hyn : ys ≠ [] := by rintro rfl; cases hk
            have hqn : qs ≠ [] := by rintro rfl; rw [hk] at hlen; cases hlen
            obtain ⟨ys', y, rfl⟩ : ∃ a b, ys = a ++ [b] := ⟨ys.dropLast, ys.getLast hyn, (List.dropLast_concat_getLast hyn).symm⟩
            obtain ⟨qs', q, rfl⟩ : ∃ a b, qs = a ++ [b] := ⟨qs.dropLast, qs.getLast hqn, (List.dropLast_concat_getLast hqn).symm⟩
            simp only [List.length_append, List.length_singleton] at hlen hk
            rw [fitsL_snoc (by omega), Bool.and_eq_true] at hq
            rw [← List.append_assoc] at hs
            obtain ⟨s1, r1, r2, r3⟩ := ih _ _ _ y hlf hs hq.2
            obtain ⟨s2, r4, r5, r6⟩ := ihk ys' qs' s1 (by omega) (by omega) hq.1 r2
            refine ⟨s2, ?_, r5, by omega⟩
            rw [List.reverse_append]
            simp only [List.reverse_cons, List.reverse_nil, List.nil_append, List.singleton_append]
            rw [ruK, r1]
            simp only
            rw [r4]
            simp
        intro qs s' a b c
        exact this ys.length ys qs s' rfl a b c
      obtain ⟨s2, r1, r2, r3⟩ := key _ qs s' (by omega) hq h
      refine ⟨s2, ?_, r2, by simp; omega⟩
      rw [List.reverse_append]
      simp only [List.reverse_cons, List.reverse_nil, List.nil_append, List.singleton_append]
      have hx : ¬ x.1 = 1 := fun e => absurd (f1.1 e) (by omega)
      rw [ru, if_neg hx, if_pos ⟨rfl, h0, h1, f2.resolve_left (by omega)⟩, r1]
/-- What is found may stand on the stack. -/
theorem ru_sound : ∀ (f : Nat) (x : Int × Int) (s : List Ev) (t : Tr) (r : List Ev), ru G f x s = some (t, r) → r.length < s.length ∧ ∀ ps, Stk G ps r.reverse → ∃ h, fits (t, h) x = true ∧ Stk G (ps ++ [(t, h)]) s.reverse := by
  intro f
  induction f with
  | zero => intro x s t r h; cases h
  | succ f ih =>
    intro x s t r h
    cases s with
    | nil => cases h
    | cons e s =>
      rw [ru] at h
      obtain ⟨e1, e2⟩ := e
      simp only at h
      split at h
      · rename_i hx
        split at h
        · rename_i he
          subst he
          cases h
          refine ⟨by simp, fun ps hs => ⟨-1, fits_mk ⟨⟨fun _ => (by show (-1 : Int) < 0; decide), fun _ => hx⟩, .inl (by show (-1 : Int) < 0; decide)⟩, ?_⟩⟩
          rw [List.reverse_cons]
          exact .leaf _ hs
        · cases h
      · rename_i hx
        split at h
        · rename_i hc
          obtain ⟨rfl, h0, h1, h2⟩ := hc
          have hp := head_pos hG h0 h1
          have key : ∀ (ys : List (Int × Int)) (s : List Ev) z, ruK (ru G f) ys s = some z → z.2.length ≤ s.length ∧ ∀ ps, Stk G ps z.2.reverse → ∃ qs, qs.map (·.1) = z.1 ∧ fitsL qs ys.reverse = true ∧ Stk G (ps ++ qs) s.reverse := by
            intro ys
            induction ys with
            | nil => intro s z h; cases h; exact ⟨Nat.le_refl _, fun ps hs => ⟨[], rfl, rfl, by rw [List.append_nil]; exact hs⟩⟩
            | cons y ys ihy =>
              intro s z h
              rw [ruK] at h
              split at h
              · cases h
              rename_i q hq
              split at h
              · cases h
              rename_i w hw
              cases h
              obtain ⟨a1, a2⟩ := ih _ _ _ _ hq
              obtain ⟨b1, b2⟩ := ihy _ _ hw
              refine ⟨by simp only; omega, fun ps hs => ?_⟩
              obtain ⟨qs, c1, c2, c3⟩ := b2 ps hs
              obtain ⟨hh, d1, d2⟩ := a2 _ c3
              refine ⟨qs ++ [(q.1, hh)], by simp [c1], ?_, by rw [← List.append_assoc]; exact d2⟩
              rw [List.reverse_cons, fitsL_snoc (fitsL_len c2), c2, d1]; rfl
          split at h
          · cases h
          rename_i z hz
          cases h
          obtain ⟨k1, k2⟩ := key _ _ _ hz
          rw [List.reverse_reverse] at k2
          refine ⟨by simp only [List.length_cons]; omega, fun ps hs => ?_⟩
          obtain ⟨qs, c1, c2, c3⟩ := k2 ps hs
          refine ⟨(G.getD e2.toNat (0, [])).1, fits_mk ⟨⟨fun e => absurd e hx, fun e => absurd e (by simp only; omega)⟩, .inr h2⟩, ?_⟩
          rw [List.reverse_cons, ← c1]
          exact .node _ h0 h1 c2 c3
        · cases h
/-- From below, of a whole text. -/
theorem up_whole {E : List Ev} {f : Nat} (hf : E.length < f) (t : Tr) : (∃ c, up G E = some ([(t, 0)], c)) ↔ (ord E 0 = true ∧ ru G f (2, 0) E.reverse = some (t, [])) := by
  constructor
  · rintro ⟨c, h⟩
    obtain ⟨h1, h2, -⟩ := up_sound E _ h
    obtain ⟨s', h3, h4, -⟩ := ru_finds hG f [] (t, 0) E (2, 0) hf h1 (by simp [fits])
    rw [stk_nil h4] at h3
    exact ⟨h2, h3⟩
  · rintro ⟨h1, h2⟩
    obtain ⟨-, h3⟩ := ru_sound hG f _ _ _ _ h2
    obtain ⟨h, h4, h5⟩ := h3 [] .nil
    rw [List.reverse_reverse, List.nil_append] at h5
    obtain ⟨h6, h7⟩ := fits_iff h4
    have hh : ¬ h < 0 := fun e => absurd (h6.2 e) (by decide)
    obtain rfl : h = 0 := h7.resolve_left hh
    exact ⟨_, up_complete h5 h1⟩
end
end Tr
end Go.Proofs.Ytldapomcjfkeeaa
