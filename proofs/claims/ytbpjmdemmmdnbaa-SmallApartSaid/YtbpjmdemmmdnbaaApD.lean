/-
  The queue and the map of Apart, in memory.
-/
import Derived.Test.YtbpjmdemmmdnbaaApCall
import Derived.Test.YtbpjmdemmmdnbaaRev
import Derived.Test.YtbpjmdemmmdnbaaLlEq
import Derived.Test.YtbpjmdemmmdnbaaSepRow
namespace Go.Proofs.Ytbpjmdemmmdnbaa
set_option linter.unusedVariables false
set_option linter.unusedSimpArgs false
open Go.ChangeShapes Go.WideShapes Go.ChangeAt Go.RowKit

namespace Ap
def itV (i : It) : Value := .agg #[.int .i64 i.1.1, .int .i64 i.1.2, .int .i64 i.2.1, .int .u8 i.2.2]
theorem itE : ET Try.prog 84 83 4 32 := ET.mk' Try.underlying84 (z := .agg #[.int .i64 0, .int .i64 0, .int .i64 0, .int .u8 0]) (by kernel_rfl) rfl (by decide)
theorem itV_one (i : It) : ∀ q ∈ (itV i).cells.toList, q.oneCell' = true := by
  intro q hq
  simp [itV, Value.cells] at hq
  rcases hq with rfl | rfl | rfl | rfl <;> rfl
/-- A block of one element, as a slice. -/
theorem own_one {w : World} {g : Nat} {e : TypeId} {size : Nat} {u : Value} (h : w.heap[g]? = some (.cells u.cells e (0, 0))) (hs : u.cells.size = size) : Own w 0 e size (.slice (some ⟨g, 0, none⟩) 1 1) [u] := by
  refine ⟨by simp [cellsOf, hs], .inr ⟨g, 1, u.cells, rfl, Nat.zero_le _, h, Nat.le_refl _, by decide, by simp [hs], ?_⟩⟩
  simp [cellsOf]
  exact List.take_of_length_le (by rw [Array.length_toList]; omega)
/-- How often each pair was met; the met ones are those of the queue. -/
structure Seen (M : DataW Unit) (S : List It) (T : Nat) : Prop where
  tidy : Maps.Tidy M
  look : ∀ (x : Pr) (kl : Lit), keyOf Try.prog 81 (prV x) = some kl → ∃ c : Nat, M.atKey kl (.lit (.int .i64 0)) = .lit (.int .i64 c) ∧ c ≤ T ∧ (0 < c ↔ has S x = true)
theorem has_snoc {S : List It} {i : It} {x : Pr} : has (S ++ [i]) x = (has S x || decide (i.1 = x)) := by simp [has]
theorem Seen.put {M : DataW Unit} {S S' : List It} {T : Nat} (h : Seen M S T) {x : Pr} {kl : Lit} (hk : keyOf Try.prog 81 (prV x) = some kl) {c : Nat} (hc : M.atKey kl (.lit (.int .i64 0)) = .lit (.int .i64 c)) (hS : has S' x = true) (hO : ∀ y, y ≠ x → has S' y = has S y) : Seen (M.put kl (.lit (.int .i64 ((c : Int) + 1)))) S' (T + 1) := by
  have K := Maps.Keyed.of_law law
  refine ⟨h.tidy.put (K.key hk) _, fun y kl' hk' => ?_⟩
  by_cases e : x = y
  · subst e
    rw [hk] at hk'
    cases hk'
    obtain ⟨c', h1, h2, h3⟩ := h.look x kl hk
    rw [hc] at h1
    simp only [DataW.lit.injEq, Lit.int.injEq, true_and, Int.natCast_inj] at h1
    subst h1
    refine ⟨c + 1, ?_, by omega, by simp [hS]⟩
    rw [Maps.atKey_put_same h.tidy.isMap (K.key hk)]
    rfl
  · have hne : kl' ≠ kl := by
      rintro rfl
      exact e (prV_inj _ _ (K.inj hk hk'))
    obtain ⟨c', h1, h2, h3⟩ := h.look y kl' hk'
    refine ⟨c', by rw [Maps.atKey_put_other hne]; exact h1, by omega, by rw [h3, hO y (fun e2 => e e2.symm)]⟩
theorem Seen.init {x : Pr} {kl : Lit} (hk : keyOf Try.prog 81 (prV x) = some kl) (i : It) (hi : i.1 = x) : Seen ((.map [] : DataW Unit).put kl (.lit (.int .i64 1))) [i] 1 := by
  have h0 : Seen (.map [] : DataW Unit) [] 0 := ⟨Maps.tidy_empty, fun _ _ _ => ⟨0, rfl, by omega, by simp [has]⟩⟩
  have := h0.put (S' := [i]) hk (c := 0) rfl (by simp [has, hi]) (fun y hy => by simp [has]; rw [hi]; exact fun e => hy e.symm)
  simpa using this
theorem Seen.add {D : Two} {M : DataW Unit} {S : List It} {T : Nat} (h : Seen M S T) {x : Pr} {n c : Nat} {kl : Lit} (hk : keyOf Try.prog 81 (prV (nxt D x c)) = some kl) {m : Nat} (hc : M.atKey kl (.lit (.int .i64 0)) = .lit (.int .i64 m)) : Seen (M.put kl (.lit (.int .i64 ((m : Int) + 1)))) (add1 D x n S c) (T + 1) := by
  refine h.put hk hc ?_ ?_
  · unfold add1
    split
    · assumption
    · rw [has_snoc]; simp
  · intro y hy
    unfold add1
    split
    · rfl
    · rw [has_snoc]
      have : decide (nxt D x c = y) = false := decide_eq_false (fun e => hy e.symm)
      simp [this]
end Ap
/-- string(b) of bytes that the call owns, nil or not. -/
theorem convOwn {P : Program} {w : World} {src e dst : TypeId} {v : Value} (hs : P.underlying src = some (.slice e)) (he : P.underlying e = some (.int .u8)) (hd : P.underlying dst = some .string) (xs : List Int) (h : Own w 0 e 1 v (xs.map (Value.int .u8))) :
    (convert src dst v).run P w = .ok (.string (strOfNums xs)) w := by
  rcases h.shape with ⟨h1, h2⟩ | ⟨g, cap, h1, _⟩
  · have : xs = [] := by simpa using h2
    subst this; subst h1
    rw [run_convert_bytes_nil w src e hs he 0 0 dst hd]
    rfl
  · subst h1
    exact str_of_own hs he hd xs h
end Go.Proofs.Ytbpjmdemmmdnbaa
