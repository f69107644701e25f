/-
  Columns that are alike have one number. (Plain functions; nothing of the program is claimed.)
-/
import Derived.Test.YtbpjmdemmmdnbaaMapView
namespace Go.Proofs.Ytbpjmdemmmdnbaa
set_option linter.unusedVariables false

namespace Pk
/-- The column of a byte, as wide as there may be states. -/
def col (rows : List (List Int)) (b : Nat) : List Int := rows.map (fun r => r.getD b 0) ++ List.replicate (200 - rows.length) 0
theorem col_len {rows : List (List Int)} (h : rows.length ≤ 200) (b : Nat) : (col rows b).length = 200 := by simp [col]; omega
theorem col_eq {rows : List (List Int)} {f b : Nat} : col rows f = col rows b ↔ ∀ i, i < rows.length → (rows.getD i []).getD f 0 = (rows.getD i []).getD b 0 := by
  unfold col
  rw [List.append_left_inj]
  constructor
  · intro h i hi
    have := congrArg (fun l => l[i]?) h
    simp only [List.getElem?_map, List.getElem?_eq_getElem hi, Option.map_some, Option.some.injEq] at this
    simpa [List.getD, List.getElem?_eq_getElem hi] using this
  · intro h
    apply List.map_congr_left
    intro r hr
    obtain ⟨i, hi, rfl⟩ := List.getElem_of_mem hr
    have := h i hi
    simpa [List.getD, List.getElem?_eq_getElem hi] using this
/-- The column so far: k rows of it. -/
theorem col_step {rows : List (List Int)} {b k : Nat} (hk : k < rows.length) (hl : rows.length ≤ 200) : (((rows.take k).map (fun r : List Int => r.getD b 0)) ++ List.replicate (200 - k) 0).set k ((rows.getD k []).getD b 0) = ((rows.take (k + 1)).map (fun r : List Int => r.getD b 0)) ++ List.replicate (200 - (k + 1)) 0 := by
  have h1 : ((rows.take k).map (fun r => r.getD b 0)).length = k := by simp; omega
  rw [List.set_append, if_neg (by omega), h1, Nat.sub_self, show 200 - k = (200 - (k + 1)) + 1 by omega, List.replicate_succ, List.set_cons_zero, List.take_succ_eq_append_getElem hk, List.map_append]
  simp [List.getD, List.getElem?_eq_getElem hk]
/-- Where, among the first columns, is one that is like b's? Their number, if none is. -/
def place (rows : List (List Int)) (fs : List Nat) (b : Nat) : Nat := fs.findIdx (fun f => decide (col rows f = col rows b))
def step (rows : List (List Int)) (st : List Nat × List Nat) (b : Nat) : List Nat × List Nat :=
  (if place rows st.1 b = st.1.length then st.1 ++ [b] else st.1, st.2 ++ [place rows st.1 b])
def run (rows : List (List Int)) (n : Nat) : List Nat × List Nat := (List.range n).foldl (step rows) ([], [])
theorem run_succ (rows : List (List Int)) (n : Nat) : run rows (n + 1) = step rows (run rows n) n := by
  unfold run; rw [List.range_succ, List.foldl_append]; rfl
theorem run_len (rows : List (List Int)) (n : Nat) : (run rows n).1.length ≤ n ∧ (run rows n).2.length = n := by
  induction n with
  | zero => exact ⟨Nat.le_refl _, rfl⟩
  | succ n ih =>
    rw [run_succ]
    obtain ⟨h1, h2⟩ := ih
    refine ⟨?_, by simp [step, h2]⟩
    unfold step
    simp only
    split
    · rw [List.length_append, List.length_singleton]; omega
    · omega
/-- The map of the program: each first column with its number, the newest first. -/
def tab (rows : List (List Int)) (fs : List Nat) : List (List Int × Int) := (fs.zipIdx.map (fun p => (col rows p.1, (p.2 : Int)))).reverse
theorem tab_snoc (rows : List (List Int)) (fs : List Nat) (b : Nat) : tab rows (fs ++ [b]) = (col rows b, (fs.length : Int)) :: tab rows fs := by
  unfold tab
  rw [List.zipIdx_append, List.map_append, List.reverse_append]
  simp
/-- No two of the first columns are alike. -/
def Apart (rows : List (List Int)) (fs : List Nat) : Prop := fs.Pairwise (fun f g => col rows f ≠ col rows g)
theorem apart_run (rows : List (List Int)) (n : Nat) : Apart rows (run rows n).1 := by
  induction n with
  | zero => exact List.Pairwise.nil
  | succ n ih =>
    rw [run_succ]
    unfold step
    simp only
    split
    · rename_i h
      refine List.pairwise_append.2 ⟨ih, List.pairwise_singleton _ _, fun f hf g hg => ?_⟩
      rw [List.mem_singleton.1 hg]
      intro he
      unfold place at h
      have := List.findIdx_lt_length_of_exists (xs := (run rows n).1) (p := fun f => decide (col rows f = col rows n)) ⟨f, hf, by simpa using he⟩
      omega
    · exact ih
theorem has_tab (rows : List (List Int)) (fs : List Nat) (b : Nat) : hasAt (tab rows fs) (col rows b) = !decide (place rows fs b = fs.length) := by
  have h1 : hasAt (tab rows fs) (col rows b) = fs.any (fun f => decide (col rows f = col rows b)) := by
    unfold hasAt tab
    rw [List.any_reverse, List.any_map]
    conv => rhs; rw [← List.zipIdx_map_fst 0 fs, List.any_map]
    rfl
  rw [h1]
  unfold place
  cases h : fs.any (fun f => decide (col rows f = col rows b))
  · have : fs.findIdx (fun f => decide (col rows f = col rows b)) = fs.length := by
      rw [List.findIdx_eq_length]
      intro x hx
      have := List.any_eq_false.1 h x hx
      simpa using this
    simp [this]
  · obtain ⟨f, hf, hp⟩ := List.any_eq_true.1 h
    have := List.findIdx_lt_length_of_exists (xs := fs) (p := fun f => decide (col rows f = col rows b)) ⟨f, hf, hp⟩
    have hne : ¬ fs.findIdx (fun f => decide (col rows f = col rows b)) = fs.length := by omega
    simp [hne]
theorem zip_find (rows : List (List Int)) (c : List Int) : ∀ (fs : List Nat) (k : Nat), (∀ f ∈ fs, ∀ g ∈ fs, col rows f = c → col rows g = c → f = g ∨ True) → fs.Pairwise (fun f g => col rows f ≠ col rows g) →
    ((fs.zipIdx k).map (fun p => (col rows p.1, (p.2 : Int)))).reverse.find? (fun p => decide (p.1 = c)) = if fs.findIdx (fun f => decide (col rows f = c)) = fs.length then none else some (c, ((k + fs.findIdx (fun f => decide (col rows f = c)) : Nat) : Int)) := by
  intro fs
  induction fs with
  | nil => intro k _ _; simp
  | cons f fs ih =>
    intro k hh hp
    obtain ⟨h1, h2⟩ := List.pairwise_cons.1 hp
    have ih2 := ih (k + 1) (fun _ _ _ _ _ _ => .inr trivial) h2
    rw [List.zipIdx_cons, List.map_cons, List.reverse_cons, List.find?_append, ih2, List.findIdx_cons]
    by_cases hf : col rows f = c
    · have hno : fs.findIdx (fun f => decide (col rows f = c)) = fs.length := by
        rw [List.findIdx_eq_length]
        intro x hx
        have := h1 x hx
        rw [hf] at this
        simpa using fun e => this e.symm
      simp [hno, hf]
    · by_cases hl : fs.findIdx (fun f => decide (col rows f = c)) = fs.length
      · simp [hl, hf]
      · simp [hl, hf]
        omega
theorem num_tab (rows : List (List Int)) (fs : List Nat) (hp : Apart rows fs) (b : Nat) (hb : place rows fs b ≠ fs.length) : numAt (tab rows fs) (col rows b) = (place rows fs b : Int) := by
  unfold numAt tab
  have := zip_find rows (col rows b) fs 0 (fun _ _ _ _ _ _ => .inr trivial) hp
  unfold place at hb ⊢
  rw [this, if_neg hb]
  simp
end Pk
end Go.Proofs.Ytbpjmdemmmdnbaa
