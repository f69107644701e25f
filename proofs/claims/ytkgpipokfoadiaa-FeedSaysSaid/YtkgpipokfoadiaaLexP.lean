/-
  A lexer's plain law: the longest token at the front of a text, all tokens of a text. (A helper text; it claims nothing of the program.)
-/
import Derived.Lib.Hide
namespace Go.Proofs.Ytkgpipokfoadiaa
set_option linter.unusedVariables false

namespace Lx
/-- The state behind a byte. -/
def nx (of : List Int) (next : List (List Int)) (now : Nat) (c : UInt8) : Int := (next.getD now []).getD (of.getD c.toNat 0).toNat 0
def tg (tags : List Int) (n : Int) : Int := tags.getD n.toNat 0
/-- From a state on, k bytes behind the place; the best so far: its rule, its end. -/
def go (of : List Int) (next : List (List Int)) (tags : List Int) : List UInt8 → Nat → Int → Int × Int → Int × Int
  | [], _, _, b => b
  | c :: r, now, k, b => if nx of next now c < 0 then b else go of next tags r (nx of next now c).toNat (k + 1) (if 0 ≤ tg tags (nx of next now c) then (tg tags (nx of next now c), k + 1) else b)

section
variable {of : List Int} {next : List (List Int)} {tags : List Int}
theorem go_nil (now k b) : go of next tags [] now k b = b := rfl
theorem go_stop {c r now k b} (h : nx of next now c < 0) : go of next tags (c :: r) now k b = b := by rw [go, if_pos h]
theorem go_hit {c r now k b} (h : ¬ nx of next now c < 0) (h1 : 0 ≤ tg tags (nx of next now c)) : go of next tags (c :: r) now k b = go of next tags r (nx of next now c).toNat (k + 1) (tg tags (nx of next now c), k + 1) := by rw [go, if_neg h, if_pos h1]
theorem go_miss {c r now k b} (h : ¬ nx of next now c < 0) (h1 : ¬ 0 ≤ tg tags (nx of next now c)) : go of next tags (c :: r) now k b = go of next tags r (nx of next now c).toNat (k + 1) b := by rw [go, if_neg h, if_neg h1]

/-- Counted from f on instead of from 0 on. -/
def sh (f : Int) (x : Int × Int) : Int × Int := (x.1, if x.2 = 0 then 0 else x.2 + f)
theorem go_sh (f : Int) (l : List UInt8) (now : Nat) (k : Int) (hk : 0 ≤ k) (b : Int × Int) : go of next tags l now (k + f) (sh f b) = sh f (go of next tags l now k b) := by
  induction l generalizing now k b with
  | nil => rfl
  | cons c r ih =>
    by_cases h : nx of next now c < 0
    · rw [go_stop h, go_stop h]
    · by_cases h1 : 0 ≤ tg tags (nx of next now c)
      · rw [go_hit h h1, go_hit h h1, show k + f + 1 = k + 1 + f by omega, ← ih _ (k + 1) (by omega)]
        congr 1
        simp only [sh]
        rw [if_neg (by omega)]
      · rw [go_miss h h1, go_miss h h1, show k + f + 1 = k + 1 + f by omega, ← ih _ (k + 1) (by omega)]
theorem go_in (l : List UInt8) (now : Nat) (k : Int) (b : Int × Int) (h0 : 0 ≤ k) (hb : 0 ≤ b.2 ∧ b.2 ≤ k) : 0 ≤ (go of next tags l now k b).2 ∧ (go of next tags l now k b).2 ≤ k + l.length := by
  induction l generalizing now k b with
  | nil => simpa [go_nil] using hb
  | cons c r ih =>
    rw [List.length_cons]
    by_cases h : nx of next now c < 0
    · rw [go_stop h]; omega
    · by_cases h1 : 0 ≤ tg tags (nx of next now c)
      · rw [go_hit h h1]
        have := ih (nx of next now c).toNat (k + 1) (tg tags (nx of next now c), k + 1) (by omega) (by simp; omega)
        omega
      · rw [go_miss h h1]
        have := ih (nx of next now c).toNat (k + 1) b (by omega) (by omega)
        omega
theorem go_zero (l : List UInt8) (now : Nat) (k : Int) (b : Int × Int) (h0 : 0 ≤ k) (hb : b.2 = 0 → b.1 = 0) (h : (go of next tags l now k b).2 = 0) : (go of next tags l now k b).1 = 0 := by
  induction l generalizing now k b with
  | nil => exact hb h
  | cons c r ih =>
    by_cases g : nx of next now c < 0
    · rw [go_stop g] at h ⊢; exact hb h
    · by_cases h1 : 0 ≤ tg tags (nx of next now c)
      · rw [go_hit g h1] at h ⊢
        exact ih _ (k + 1) _ (by omega) (fun e => by simp at e; omega) h
      · rw [go_miss g h1] at h ⊢
        exact ih _ (k + 1) _ (by omega) hb h
end

/-- The longest token at the front: its rule, its size (0: none). -/
def longest (of : List Int) (next : List (List Int)) (tags : List Int) (l : List UInt8) : Int × Int := go of next tags l 0 0 (0, 0)
theorem longest_in (of next tags l) : 0 ≤ (longest of next tags l).2 ∧ (longest of next tags l).2 ≤ l.length := by
  have := go_in (of := of) (next := next) (tags := tags) l 0 0 (0, 0) (by omega) (by simp)
  unfold longest; omega
/-- All tokens: what there is at a place on. -/
def toks (of : List Int) (next : List (List Int)) (tags : List Int) : Nat → List UInt8 → Int → List (Int × Int × Int) → List (Int × Int × Int) × Int
  | 0, _, _, out => (out, -1)
  | n + 1, l, at_, out =>
    if l = [] then (out, -1) else if (longest of next tags l).2 = 0 then (out, at_)
    else toks of next tags n (l.drop (longest of next tags l).2.toNat) (at_ + (longest of next tags l).2) (out ++ [((longest of next tags l).1, at_, at_ + (longest of next tags l).2)])
section
variable {of : List Int} {next : List (List Int)} {tags : List Int}
theorem toks_end {n at_ out} : toks of next tags n [] at_ out = (out, -1) := by cases n <;> simp [toks]
theorem toks_bad {n l at_ out} (h : l ≠ []) (h1 : (longest of next tags l).2 = 0) : toks of next tags (n + 1) l at_ out = (out, at_) := by rw [toks, if_neg h, if_pos h1]
theorem toks_step {n l at_ out} (h : l ≠ []) (h1 : (longest of next tags l).2 ≠ 0) : toks of next tags (n + 1) l at_ out = toks of next tags n (l.drop (longest of next tags l).2.toNat) (at_ + (longest of next tags l).2) (out ++ [((longest of next tags l).1, at_, at_ + (longest of next tags l).2)]) := by
  rw [toks, if_neg h, if_neg h1]
end
end Lx
attribute [irreducible] Lx.longest Lx.toks Lx.go Lx.nx Lx.tg
end Go.Proofs.Ytkgpipokfoadiaa
