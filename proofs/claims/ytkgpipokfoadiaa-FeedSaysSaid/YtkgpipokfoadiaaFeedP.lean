/-
  A lexer that is fed: the plain law. (A helper text; it claims nothing of the program.)
-/
import Derived.Test.YtkgpipokfoadiaaLexP
namespace Go.Proofs.Ytkgpipokfoadiaa
set_option linter.unusedVariables false

namespace Lx
/-- Leads the state nowhere? -/
def deadB (next : List (List Int)) (q : Nat) : Bool := (next.getD q []).all fun x => decide (x < 0)
theorem getD_at (l : List Int) (j : Nat) (h : j < l.length) : l.getD j 0 = l[j] := by simp [List.getD, h]
theorem dead_yes {next : List (List Int)} {q : Nat} (h : ∀ j, j < (next.getD q []).length → (next.getD q []).getD j 0 < 0) : deadB next q = true := by
  unfold deadB
  generalize next.getD q [] = l at *
  rw [List.all_eq_true]
  intro x hx
  obtain ⟨j, hj, rfl⟩ := List.getElem_of_mem hx
  have := h j hj
  rw [getD_at l j hj] at this
  exact decide_eq_true this
theorem dead_no {next : List (List Int)} {q j : Nat} (hj : j < (next.getD q []).length) (h : 0 ≤ (next.getD q []).getD j 0) : deadB next q = false := by
  unfold deadB
  generalize next.getD q [] = l at *
  rw [List.all_eq_false]
  refine ⟨l[j], List.getElem_mem hj, ?_⟩
  rw [getD_at l j hj] at h
  simpa using h
/-- Is the token certain, from a state on? -/
def cert (of : List Int) (next : List (List Int)) : List UInt8 → Nat → Bool
  | [], q => deadB next q
  | c :: r, q => if nx of next q c < 0 then true else cert of next r (nx of next q c).toNat
section
variable {of : List Int} {next : List (List Int)} {tags : List Int}
theorem cert_nil {q} : cert of next [] q = deadB next q := rfl
theorem cert_stop {c r q} (h : nx of next q c < 0) : cert of next (c :: r) q = true := by rw [cert, if_pos h]
theorem cert_go {c r q} (h : ¬ nx of next q c < 0) : cert of next (c :: r) q = cert of next r (nx of next q c).toNat := by rw [cert, if_neg h]
end
/-- Is the token at the front of a text certain? -/
def sure (of : List Int) (next : List (List Int)) (l : List UInt8) : Bool := if l = [] then false else cert of next l 0
theorem sure_nil {of next} : sure of next [] = false := by simp [sure]
theorem sure_cons {of next l} (h : l ≠ []) : sure of next l = cert of next l 0 := by rw [sure, if_neg h]

/-- Cut off what is certain: was it all right, where, what is left, the tokens. -/
def cutGo (of : List Int) (next : List (List Int)) (tags : List Int) : Nat → Int → ByteArray → List (Int × Int × Int) → Bool × Int × ByteArray × List (Int × Int × Int)
  | 0, a, b, out => (true, a, b, out)
  | n + 1, a, b, out =>
    if sure of next b.data.toList = false then (true, a, b, out)
    else if (longest of next tags b.data.toList).2 = 0 then (false, a, b, out)
    else cutGo of next tags n (a + (longest of next tags b.data.toList).2) (b.extract (longest of next tags b.data.toList).2.toNat b.size) (out ++ [((longest of next tags b.data.toList).1, a, a + (longest of next tags b.data.toList).2)])
section
variable {of : List Int} {next : List (List Int)} {tags : List Int}
theorem cut_open {n a b out} (h : sure of next b.data.toList = false) : cutGo of next tags n a b out = (true, a, b, out) := by cases n <;> simp [cutGo, h]
theorem cut_bad {n a b out} (h : sure of next b.data.toList = true) (h1 : (longest of next tags b.data.toList).2 = 0) : cutGo of next tags (n + 1) a b out = (false, a, b, out) := by rw [cutGo, if_neg (by simp [h]), if_pos h1]
theorem cut_step {n a b out} (h : sure of next b.data.toList = true) (h1 : (longest of next tags b.data.toList).2 ≠ 0) : cutGo of next tags (n + 1) a b out = cutGo of next tags n (a + (longest of next tags b.data.toList).2) (b.extract (longest of next tags b.data.toList).2.toNat b.size) (out ++ [((longest of next tags b.data.toList).1, a, a + (longest of next tags b.data.toList).2)]) := by
  rw [cutGo, if_neg (by simp [h]), if_neg h1]
end
/-- What is told: where, what is left, over, tokens, error. -/
structure Fed where
  at_ : Int
  buf : ByteArray
  over : Int
  out : List (Int × Int × Int)
  err : Int
/-- A text, byte by byte, from its i-th byte on. -/
def feedGo (of : List Int) (next : List (List Int)) (tags : List Int) (s : ByteArray) : Nat → Nat → Int → ByteArray → List (Int × Int × Int) → Fed
  | 0, _, a, b, out => ⟨a, b, 0, out, 0⟩
  | n + 1, i, a, b, out =>
    let b1 : ByteArray := b ++ s.extract i (i + 1)
    let x := cutGo of next tags (b1.size + 1) a b1 out
    if x.1 = false then ⟨x.2.1, ⟨#[]⟩, 9, x.2.2.2, 9⟩
    else if 64 < x.2.2.1.size then ⟨x.2.1, ⟨#[]⟩, 10, x.2.2.2, 10⟩
    else feedGo of next tags s n (i + 1) x.2.1 x.2.2.1 x.2.2.2
end Lx
attribute [irreducible] Lx.cert Lx.sure Lx.cutGo Lx.deadB
end Go.Proofs.Ytkgpipokfoadiaa
