/-
  Packing: the rows of the first columns, the numbers of the columns. (Plain functions; nothing of the program is claimed.)
-/
import Derived.Test.YtbpjmdemmmdnbaaPk
namespace Go.Proofs.Ytbpjmdemmmdnbaa
set_option linter.unusedVariables false

namespace Pk
def pick (fs : List Nat) (r : List Int) : List Int := fs.map fun f => r.getD f 0
theorem pick_snoc (fs : List Nat) (b : Nat) (r : List Int) : pick (fs ++ [b]) r = pick fs r ++ [r.getD b 0] := by simp [pick]
/-- The rows, where k of them have got b's number already. -/
def nxK (rows : List (List Int)) (fs : List Nat) (b k : Nat) : List (List Int) := (rows.take k).map (pick (fs ++ [b])) ++ (rows.drop k).map (pick fs)
def nx (rows : List (List Int)) (fs : List Nat) : List (List Int) := rows.map (pick fs)
theorem nxK_zero (rows : List (List Int)) (fs : List Nat) (b : Nat) : nxK rows fs b 0 = nx rows fs := by simp [nxK, nx]
theorem nxK_all (rows : List (List Int)) (fs : List Nat) (b : Nat) : nxK rows fs b rows.length = nx rows (fs ++ [b]) := by simp [nxK, nx]
theorem nx_nil (rows : List (List Int)) : nx rows [] = List.replicate rows.length [] := by
  unfold nx
  rw [show pick [] = fun _ => ([] : List Int) from rfl]
  apply List.ext_getElem (by simp)
  intro i h1 h2
  simp
theorem nx_len (rows : List (List Int)) (fs : List Nat) : (nx rows fs).length = rows.length := by simp [nx]
theorem nxK_len (rows : List (List Int)) (fs : List Nat) (b k : Nat) : (nxK rows fs b k).length = rows.length := by simp [nxK]; omega
theorem nxK_get {rows : List (List Int)} {fs : List Nat} {b k : Nat} (hk : k < rows.length) : (nxK rows fs b k).getD k [] = pick fs (rows.getD k []) := by
  unfold nxK
  have h1 : ((rows.take k).map (pick (fs ++ [b]))).length = k := by simp; omega
  rw [List.getD_eq_getElem?_getD, List.getElem?_append_right (by omega), h1, Nat.sub_self, List.getElem?_map, List.getElem?_drop]
  simp [List.getD, List.getElem?_eq_getElem hk]
theorem nxK_step {rows : List (List Int)} {fs : List Nat} {b k : Nat} (hk : k < rows.length) : (nxK rows fs b k).set k (pick fs (rows.getD k []) ++ [(rows.getD k []).getD b 0]) = nxK rows fs b (k + 1) := by
  unfold nxK
  have h1 : ((rows.take k).map (pick (fs ++ [b]))).length = k := by simp; omega
  rw [List.set_append_right _ _ (by omega), h1, Nat.sub_self, List.drop_eq_getElem_cons hk, List.map_cons, List.set_cons_zero, List.take_succ_eq_append_getElem hk, List.map_append, List.append_assoc]
  simp [pick_snoc, List.getD, List.getElem?_eq_getElem hk]
theorem nx_row_len {rows : List (List Int)} {fs : List Nat} : ∀ r ∈ nx rows fs, r.length = fs.length := by
  intro r hr
  obtain ⟨x, _, rfl⟩ := List.mem_map.1 hr
  simp [pick]
theorem nxK_row_len {rows : List (List Int)} {fs : List Nat} {b k : Nat} : ∀ r ∈ nxK rows fs b k, r.length ≤ fs.length + 1 := by
  intro r hr
  rcases List.mem_append.1 hr with hr | hr
  · obtain ⟨x, _, rfl⟩ := List.mem_map.1 hr
    simp [pick]
  · obtain ⟨x, _, rfl⟩ := List.mem_map.1 hr
    simp [pick]
/-- The columns' numbers so far. -/
def ofP (rows : List (List Int)) (b : Nat) : List Int := ((run rows b).2.map fun (n : Nat) => (n : Int)) ++ List.replicate (256 - b) 0
theorem ofP_len {rows : List (List Int)} {b : Nat} (hb : b ≤ 256) : (ofP rows b).length = 256 := by
  simp [ofP, (run_len rows b).2]; omega
theorem ofP_zero (rows : List (List Int)) : ofP rows 0 = List.replicate 256 0 := List.nil_append _
theorem ofP_step {rows : List (List Int)} {b : Nat} (hb : b < 256) : (ofP rows b).set b (place rows (run rows b).1 b : Int) = ofP rows (b + 1) := by
  unfold ofP
  have h1 : ((run rows b).2.map fun (n : Nat) => (n : Int)).length = b := by simp [(run_len rows b).2]
  rw [List.set_append_right _ _ (by omega), h1, Nat.sub_self, show 256 - b = (256 - (b + 1)) + 1 by omega, List.replicate_succ, List.set_cons_zero, run_succ]
  simp [step]
theorem place_le (rows : List (List Int)) (fs : List Nat) (b : Nat) : place rows fs b ≤ fs.length := List.findIdx_le_length
theorem run_new {rows : List (List Int)} {b : Nat} (h : place rows (run rows b).1 b = (run rows b).1.length) : (run rows (b + 1)).1 = (run rows b).1 ++ [b] := by rw [run_succ]; simp [step, h]
theorem run_old {rows : List (List Int)} {b : Nat} (h : place rows (run rows b).1 b ≠ (run rows b).1.length) : (run rows (b + 1)).1 = (run rows b).1 := by rw [run_succ]; simp [step, h]
theorem run_lt {rows : List (List Int)} (n : Nat) : ∀ f ∈ (run rows n).1, f < n := by
  induction n with
  | zero => intro f hf; cases hf
  | succ n ih =>
    intro f hf
    by_cases h : place rows (run rows n).1 n = (run rows n).1.length
    · rw [run_new h] at hf
      rcases List.mem_append.1 hf with h1 | h1
      · have := ih f h1; omega
      · rw [List.mem_singleton.1 h1]; omega
    · rw [run_old h] at hf
      have := ih f hf; omega
/-- The column of b, filled up to row k, as the program lays it. -/
def colP (rows : List (List Int)) (b k : Nat) : List Int := ((rows.take k).map (fun r : List Int => r.getD b 0)) ++ List.replicate (200 - k) 0
theorem colP_zero (rows : List (List Int)) (b : Nat) : colP rows b 0 = List.replicate 200 0 := by simp [colP]
theorem colP_all (rows : List (List Int)) (b : Nat) : colP rows b rows.length = col rows b := by simp [colP, col]
theorem colP_step {rows : List (List Int)} {b k : Nat} (hk : k < rows.length) (hl : rows.length ≤ 200) : (colP rows b k).set k ((rows.getD k []).getD b 0) = colP rows b (k + 1) := col_step hk hl
theorem colP_len {rows : List (List Int)} {b k : Nat} (hk : k ≤ rows.length) (hl : rows.length ≤ 200) : (colP rows b k).length = 200 := by simp [colP]; omega
theorem col_wf {rows : List (List Int)} {b : Nat} (hb : b < 256) (hw : ∀ i, i < rows.length → (rows.getD i []).length = 256 ∧ ∀ x ∈ rows.getD i [], (Lit.int .i16 x).wf = true) : ∀ x ∈ col rows b, (Lit.int .i16 x).wf = true := by
  intro x hx
  rcases List.mem_append.1 hx with h | h
  · obtain ⟨r, hr, rfl⟩ := List.mem_map.1 h
    obtain ⟨i, hi, rfl⟩ := List.getElem_of_mem hr
    have := hw i hi
    rw [show rows.getD i [] = rows[i] by simp [List.getD, List.getElem?_eq_getElem hi]] at this
    refine this.2 _ ?_
    simp [List.getD, List.getElem?_eq_getElem (show b < rows[i].length by omega)]
  · rw [List.eq_of_mem_replicate h]; decide
/-- The packed automaton's block. -/
def outA (l : List Int) (vn vt : Value) : Array Value := (l.map (Value.int .u8) ++ [vn, vt]).toArray
theorem outA_list (l : List Int) (vn vt : Value) : (outA l vn vt).toList = l.map (Value.int .u8) ++ [vn, vt] := rfl
theorem outA_set {l : List Int} {vn vt : Value} {i : Nat} (hi : i < l.length) (x : Int) : (outA l vn vt).setIfInBounds i (.int .u8 x) = outA (l.set i x) vn vt := by
  apply Array.toList_inj.1
  simp only [outA, Array.toList_setIfInBounds]
  rw [List.set_append_left _ _ (by simpa using hi), List.map_set]
theorem outA_next {l : List Int} {vn vt : Value} (hl : l.length = 256) : (outA l vn vt)[256]? = some vn := by
  simp [outA, hl]
theorem outA_tags {l : List Int} {vn vt : Value} (hl : l.length = 256) : (outA l vn vt)[257]? = some vt := by
  simp [outA, hl]
theorem outA_get {l : List Int} {vn vt : Value} {i : Nat} (hi : i < l.length) : (outA l vn vt)[i]? = some (.int .u8 (l.getD i 0)) := by
  rw [← Array.getElem?_toList, outA_list, List.getElem?_append_left (by simpa using hi), List.getElem?_map]
  simp [List.getD, List.getElem?_eq_getElem hi]
theorem outA_size {l : List Int} {vn vt : Value} (hl : l.length = 256) : (outA l vn vt).size = 258 := by simp [outA, hl]
end Pk
end Go.Proofs.Ytbpjmdemmmdnbaa
