/-
  A slice of a slice, as lists; more on what a call owns. (A helper text; it claims nothing of the program.)
-/
import Derived.Test.YtlgabpcddldelaaDoorEncOps
namespace Go.Proofs.YtlgabpcddldelaaDoor
set_option linter.unusedVariables false
open Go.ChangeShapes Go.WideShapes Go.ChangeAt Go.RowKit

theorem Enc.sliced {α : Type} {E : Enc α} {bytes : Nat} {F : Nat → Prop} {w : World} {ao : Option Addr} {cap : Nat} {l : List α} (h : (E.sl bytes).R F w [.slice ao l.length cap] l) (lo hi : Nat) (h1 : lo ≤ hi) (h2 : hi ≤ l.length) :
    (E.sl bytes).R F w [Go.sliced ao lo hi cap E.size] ((l.take hi).drop lo) := by
  obtain ⟨ao', b, off, cap', e, c1, c2, c3, c4, c5, c6⟩ := h
  simp only [List.cons.injEq, Value.slice.injEq, true_and, and_true] at e
  obtain ⟨rfl, rfl⟩ := e
  have hlen : ((l.take hi).drop lo).length = hi - lo := by simp; omega
  have hby : (((l.take hi).drop lo).length : Int) * bytes ≤ 140737488355328 := by
    rw [hlen]
    refine Int.le_trans ?_ c3
    exact Int.mul_le_mul_of_nonneg_right (by omega) (by omega)
  cases ao with
  | none =>
    have hl0 : l.length = 0 := by
      rcases Nat.eq_zero_or_pos l.length with h | h
      · exact h
      · have := (c5 h).1; cases this
    have hc := c4 rfl
    subst hc
    refine ⟨none, 0, 0, 0, ?_, by rw [hlen]; omega, by decide, hby, fun _ => rfl, fun h => by rw [hlen] at h; omega, fun i hi => by rw [hlen] at hi; omega⟩
    simp [Go.sliced, hlen]
  | some a =>
    by_cases hp : 0 < hi - lo
    · obtain ⟨e1, hb, hF⟩ := c5 (by omega)
      cases e1
      refine ⟨some ⟨b, off + lo * E.size, none⟩, b, off + lo * E.size, cap - lo, ?_, by rw [hlen]; omega, by omega, hby, (fun h => by cases h), fun _ => ⟨rfl, hb, hF⟩, fun i hi2 => ?_⟩
      · rw [hlen, Go.sliced, if_neg (by omega)]
        simp only [Option.map_some, Addr.add]
        split
        · rename_i h0; rw [h0]; rfl
        · rfl
      · rw [hlen] at hi2
        obtain ⟨cs, g1, g2, g3⟩ := c6 (lo + i) (by omega)
        refine ⟨cs, g1, fun j hj => ?_, ?_⟩
        · rw [← g2 j hj, show off + lo * E.size + i * E.size + j = off + (lo + i) * E.size + j by rw [Nat.add_mul]; omega]
        · have e2 : ((l.take hi).drop lo)[i]'(by rw [hlen]; exact hi2) = l[lo + i]'(by omega) := by simp
          rw [e2]; exact g3
    · refine ⟨if cap = lo then some a else some (a.add (lo * E.size)), 0, 0, cap - lo, ?_, by rw [hlen]; omega, by omega, hby, (fun h => by split at h <;> cases h), fun h => by rw [hlen] at h; omega, fun i hi2 => by rw [hlen] at hi2; omega⟩
      rw [hlen, Go.sliced]
      simp

section
variable {w0 w w' : World} {μ ν : List Asrt} {A B C D E : Asrt}
theorem St.get5 (h : St w0 w (A :: B :: C :: D :: E :: μ)) : St w0 w (E :: A :: B :: C :: D :: μ) :=
  h.perm ((((((List.Perm.swap _ _ _).cons _).cons _).cons _).trans ((((List.Perm.swap _ _ _).cons _).cons _).trans (((List.Perm.swap _ _ _).cons _).trans (List.Perm.swap _ _ _)))))
/-- The first two alone. -/
theorem St.two (h : St w0 w (A :: B :: μ)) : St w0 w [A, B] := by
  refine ⟨h.bel, fun X hX => h.ok X ?_, fun X hX => h.lo X ?_, ?_⟩
  · rcases List.mem_cons.1 hX with rfl | hX
    · exact .head _
    · rw [List.mem_singleton.1 hX]; exact .tail _ (.head _)
  · rcases List.mem_cons.1 hX with rfl | hX
    · exact .head _
    · rw [List.mem_singleton.1 hX]; exact .tail _ (.head _)
  · refine h.sep.sublist ?_
    simp only [List.flatMap_cons, List.flatMap_nil, List.append_nil]
    exact (List.Sublist.refl _).append (List.sublist_append_left _ _)
/-- What a call has made is the caller's. -/
theorem St.join (h : St w0 w μ) (h2 : St w w' ν) : St w0 w' (ν ++ μ) := by
  have h3 := h.call h2.bel
  refine ⟨h3.bel, fun X hX => ?_, fun X hX b hb => ?_, ?_⟩
  · rcases List.mem_append.1 hX with hX | hX
    · exact h2.ok X hX
    · exact h3.ok X hX
  · rcases List.mem_append.1 hX with hX | hX
    · exact ⟨Nat.le_trans h.bel.size (h2.lo X hX b hb).1, (h2.lo X hX b hb).2⟩
    · exact h3.lo X hX b hb
  · rw [List.flatMap_append, List.nodup_append]
    refine ⟨h2.sep, h.sep, fun b hb c hc e => ?_⟩
    subst e
    obtain ⟨X, hX, hb2⟩ := List.mem_flatMap.1 hb
    obtain ⟨Y, hY, hc2⟩ := List.mem_flatMap.1 hc
    have := (h2.lo X hX b hb2).1
    have := (h.lo Y hY b hc2).2
    omega
end
end Go.Proofs.YtlgabpcddldelaaDoor
