/-
  Tokens that the call made: reading and storing; tokens counted from another place on.
-/
import Derived.Test.YtkgpipokfoadiaaPairSet
import Derived.Test.YtkgpipokfoadiaaLexTok
namespace Go.Proofs.Ytkgpipokfoadiaa
set_option linter.unusedVariables false
open Go.ChangeShapes Go.WideShapes Go.ChangeAt Go.RowKit

abbrev tk0 : Int × Int × Int := (0, 0, 0)
theorem tcells_1 (l : List (Int × Int × Int)) (q : Nat) (a : Int) (hq : q < l.length) : cellsOf ((l.set q ((l.getD q tk0).1, a, (l.getD q tk0).2.2)).map tokV) = (cellsOf (l.map tokV)).set (q * 3 + 1) (.int .i64 a) := by
  induction l generalizing q with
  | nil => simp at hq
  | cons x r ih =>
    cases q with
    | zero => simp [cellsOf, tokV, Value.cells]
    | succ q =>
      have := ih q (by simpa using hq)
      simp only [List.set_cons_succ, List.map_cons, cellsOf, List.flatMap_cons, List.getD_cons_succ] at this ⊢
      rw [this, show (q + 1) * 3 + 1 = q * 3 + 1 + 1 + 1 + 1 by omega]
      simp [tokV, Value.cells]
theorem tcells_2 (l : List (Int × Int × Int)) (q : Nat) (a : Int) (hq : q < l.length) : cellsOf ((l.set q ((l.getD q tk0).1, (l.getD q tk0).2.1, a)).map tokV) = (cellsOf (l.map tokV)).set (q * 3 + 2) (.int .i64 a) := by
  induction l generalizing q with
  | nil => simp at hq
  | cons x r ih =>
    cases q with
    | zero => simp [cellsOf, tokV, Value.cells]
    | succ q =>
      have := ih q (by simpa using hq)
      simp only [List.set_cons_succ, List.map_cons, cellsOf, List.flatMap_cons, List.getD_cons_succ] at this ⊢
      rw [this, show (q + 1) * 3 + 2 = q * 3 + 2 + 1 + 1 + 1 by omega]
      simp [tokV, Value.cells]

section
variable {w0 w : World} {μ : List Asrt} {e : TypeId} {g n cap : Nat} {l : List (Int × Int × Int)}
theorem St.cellTok (h : St w0 w (aOwn e 3 (.slice (some ⟨g, 0, none⟩) n cap) (l.map tokV) :: μ)) (q : Nat) (hq : q < l.length) :
    w.cell? ⟨g, q * 3 + 1, none⟩ = some (.int .i64 (l.getD q tk0).2.1) ∧ w.cell? ⟨g, q * 3 + 2, none⟩ = some (.int .i64 (l.getD q tk0).2.2) ∧ w.frozen? ⟨g, q * 3 + 1, none⟩ = false ∧ w.frozen? ⟨g, q * 3 + 2, none⟩ = false := by
  have ho := h.own
  have hr := ho
  unfold Own at hr
  have hg : ∃ cur T, w.heap[g]? = some (.cells cur T (0, 0)) := by
    rcases hr.2 with ⟨h2, _⟩ | ⟨g', cap', cur, hv, hB, hg, _⟩
    · cases h2
    · simp only [Value.slice.injEq, Option.some.injEq, Addr.mk.injEq] at hv
      obtain ⟨⟨rfl, _⟩, rfl, rfl⟩ := hv
      exact ⟨cur, _, hg⟩
  obtain ⟨cur, T, hg⟩ := hg
  have hx : (l.map tokV)[q]'(by simpa using hq) = tokV (l.getD q tk0) := by simp [List.getD, hq]
  have hgt := fun j (hj : j < 3) => cellsOf_get (size := 3) (us := l.map tokV) (fun u hu => by obtain ⟨x, _, rfl⟩ := List.mem_map.1 hu; rfl) q (by simpa using hq) j hj
  rw [hx] at hgt
  have hcells := World.ownsRow.cells (g := g) hr rfl
  have c1 := hcells (q * 3 + 1) _ (by have := hgt 1 (by decide); rw [this]; rfl)
  have c2 := hcells (q * 3 + 2) _ (by have := hgt 2 (by decide); rw [this]; rfl)
  have ad : ∀ p, (⟨g, 0, none⟩ : Addr).add p = ⟨g, p, none⟩ := fun p => by unfold Addr.add; split <;> simp_all
  rw [ad] at c1 c2
  exact ⟨c1, c2, frozen_of_row _ _ _ _ _ hg, frozen_of_row _ _ _ _ _ hg⟩
theorem St.setTok1 (h : St w0 w (aOwn e 3 (.slice (some ⟨g, 0, none⟩) n cap) (l.map tokV) :: μ)) (q : Nat) (hq : q < l.length) (a : Int) :
    St w0 (w.setCell ⟨g, q * 3 + 1, none⟩ (.int .i64 a)) (aOwn e 3 (.slice (some ⟨g, 0, none⟩) n cap) ((l.set q ((l.getD q tk0).1, a, (l.getD q tk0).2.2)).map tokV) :: μ) := h.setAt _ _ (tcells_1 l q a hq) (by simp)
theorem St.setTok2 (h : St w0 w (aOwn e 3 (.slice (some ⟨g, 0, none⟩) n cap) (l.map tokV) :: μ)) (q : Nat) (hq : q < l.length) (a : Int) :
    St w0 (w.setCell ⟨g, q * 3 + 2, none⟩ (.int .i64 a)) (aOwn e 3 (.slice (some ⟨g, 0, none⟩) n cap) ((l.set q ((l.getD q tk0).1, (l.getD q tk0).2.1, a)).map tokV) :: μ) := h.setAt _ _ (tcells_2 l q a hq) (by simp)
end

namespace Lx
def shf (f : Int) (x : Int × Int × Int) : Int × Int × Int := (x.1, x.2.1 + f, x.2.2 + f)
theorem toks_shf {of next tags} (f : Int) (n : Nat) (l : List UInt8) (k : Int) (hk : 0 ≤ k) (out : List (Int × Int × Int)) :
    toks of next tags n l (k + f) (out.map (shf f)) = ((toks of next tags n l k out).1.map (shf f), if (toks of next tags n l k out).2 = -1 then -1 else (toks of next tags n l k out).2 + f) := by
  induction n generalizing l k out with
  | zero => simp [toks]
  | succ n ih =>
    by_cases h : l = []
    · subst h; rw [toks_end, toks_end]; simp
    · by_cases h1 : (longest of next tags l).2 = 0
      · rw [toks_bad h h1, toks_bad h h1]; simp only; rw [if_neg (by omega)]
      · have h2 := longest_in of next tags l
        rw [toks_step h h1, toks_step h h1, ← ih _ _ (by omega)]
        congr 1
        · omega
        · rw [List.map_append]
          simp only [List.map_cons, List.map_nil, shf]
          rw [show k + f + (longest of next tags l).2 = k + (longest of next tags l).2 + f by omega]
theorem toks_bd {of next tags} (n : Nat) (l : List UInt8) (k : Int) (hk : 0 ≤ k) (out : List (Int × Int × Int)) (ho : ∀ x ∈ out, 0 ≤ x.2.1 ∧ x.2.1 ≤ k + l.length ∧ 0 ≤ x.2.2 ∧ x.2.2 ≤ k + l.length) :
    ∀ x ∈ (toks of next tags n l k out).1, 0 ≤ x.2.1 ∧ x.2.1 ≤ k + l.length ∧ 0 ≤ x.2.2 ∧ x.2.2 ≤ k + l.length := by
  induction n generalizing l k out with
  | zero => simpa [toks] using ho
  | succ n ih =>
    by_cases h : l = []
    · subst h; rw [toks_end]; simpa using ho
    · by_cases h1 : (longest of next tags l).2 = 0
      · rw [toks_bad h h1]; exact ho
      · rw [toks_step h h1]
        have h2 := longest_in of next tags l
        have e : k + (longest of next tags l).2 + ((l.drop (longest of next tags l).2.toNat).length : Int) = k + l.length := by rw [List.length_drop]; omega
        have h3 := ih (l.drop (longest of next tags l).2.toNat) (k + (longest of next tags l).2) (by omega) (out ++ [((longest of next tags l).1, k, k + (longest of next tags l).2)]) (by
          intro x hx
          rw [e]
          rcases List.mem_append.1 hx with hx | hx
          · exact ho x hx
          · rw [List.mem_singleton.1 hx]; simp only; omega)
        rw [e] at h3
        exact h3
/-- The first i counted from f on. -/
def pl (L : List (Int × Int × Int)) (f : Int) (i : Nat) : List (Int × Int × Int) := (L.take i).map (shf f) ++ L.drop i
theorem pl_len (L f i) : (pl L f i).length = L.length := by simp [pl]; omega
theorem pl_zero (L f) : pl L f 0 = L := by simp [pl]
theorem pl_end (L f) : pl L f L.length = L.map (shf f) := by simp [pl]
theorem pl_get (L f) (i : Nat) (h : i < L.length) : (pl L f i).getD i tk0 = L.getD i tk0 := by
  simp only [pl, List.getD]
  rw [List.getElem?_append_right (by simp; omega)]
  simp [Nat.min_eq_left (Nat.le_of_lt h)]
theorem pl_step (L f) (i : Nat) (h : i < L.length) : (pl L f i).set i (shf f (L.getD i tk0)) = pl L f (i + 1) := by
  have e1 : L.drop i = L.getD i tk0 :: L.drop (i + 1) := by rw [List.drop_eq_getElem_cons h]; simp [List.getD, h]
  have e2 : L.take (i + 1) = L.take i ++ [L.getD i tk0] := by rw [List.take_succ_eq_append_getElem h]; simp [List.getD, h]
  unfold pl
  rw [e1, e2, List.set_append_right _ _ (by simp; omega), List.map_append, List.append_assoc]
  congr 1
  simp [Nat.min_eq_left (Nat.le_of_lt h)]
end Lx
end Go.Proofs.Ytkgpipokfoadiaa
