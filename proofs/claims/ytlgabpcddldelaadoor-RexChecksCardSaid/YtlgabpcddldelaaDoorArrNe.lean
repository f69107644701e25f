/-
  Two arrays of numbers compared. (A helper text; it claims nothing of the program.)
-/
import Derived.Test.YtlgabpcddldelaaDoorArrEq
namespace Go.Proofs.YtlgabpcddldelaaDoor
open Go.ChangeShapes Go.WideShapes Go.ChangeAt Go.RowKit

theorem run_equalIn_arr2 {P : Program} {t e : TypeId} {n : Nat} {k : IntKind} (ht : P.underlying t = some (.array n e)) (he : P.underlying e = some (.int k)) (hs : (P.info? e).map (·.size) = some 1)
    (xs ys : List Int) (hl : xs.length = n) (hl2 : ys.length = n) (d : Nat) (w : World) : (Op.equalIn (d + 2) t (.agg (xs.map (Value.int k)).toArray) (.agg (ys.map (Value.int k)).toArray)).run P w = .ok (decide (xs = ys)) w := by
  cases hq : P.info? e with
  | none => simp [hq] at hs
  | some inf =>
    have hs1 : inf.size = 1 := by simpa [hq] using hs
    have hpart : ∀ (zs : List Int), zs.length = n → ∀ i, i < n → (part e (zs.map (Value.int k)).toArray (i * 1)).run P w = .ok (.int k (zs.getD i 0)) w := by
      intro zs hz i hi
      have hil : i < zs.length := by omega
      simp [part, isAgg, run_underlying he, hil]
    have hloop : ∀ (l : List Nat), (∀ i ∈ l, i < n) → ∃ r : Option Bool, (forIn l ((none : Option Bool), ()) (fun i (_ : Option Bool × Unit) => (do
        let a ← part e (xs.map (Value.int k)).toArray (i * 1)
        let b ← part e (ys.map (Value.int k)).toArray (i * 1)
        let c ← Op.equalIn (d + 1) e a b
        if (!c) = true then pure (ForInStep.done (some false, ())) else pure (ForInStep.yield (none, ())) : Sem (ForInStep (Option Bool × Unit))))).run P w = .ok (r, ()) w ∧ ((r = none ∧ ∀ i ∈ l, xs.getD i 0 = ys.getD i 0) ∨ (r = some false ∧ ∃ i ∈ l, xs.getD i 0 ≠ ys.getD i 0)) := by
      intro l
      induction l with
      | nil => intro _; exact ⟨none, by simp, .inl ⟨rfl, fun i hi => by cases hi⟩⟩
      | cons i l ih =>
        intro h
        have h1 := hpart xs hl i (h i (List.mem_cons_self ..))
        have h2 := hpart ys hl2 i (h i (List.mem_cons_self ..))
        simp only [List.forIn_cons, Sem.run_bind, h1, h2, Result.andThen_ok, run_equalIn_int w d e k k _ _ he]
        by_cases hxy : xs.getD i 0 = ys.getD i 0
        · obtain ⟨r, hr, hh⟩ := ih fun q hq => h q (List.mem_cons_of_mem _ hq)
          refine ⟨r, ?_, ?_⟩
          · simp only [hxy, beq_self_eq_true, Bool.not_true, Bool.false_eq_true, if_false, Sem.run_pure, Result.andThen_ok]
            exact hr
          · rcases hh with ⟨e1, e2⟩ | ⟨e1, j, hj, e2⟩
            · refine .inl ⟨e1, fun j hj => ?_⟩
              rcases List.mem_cons.1 hj with rfl | hj
              · exact hxy
              · exact e2 j hj
            · exact .inr ⟨e1, j, List.mem_cons_of_mem _ hj, e2⟩
        · refine ⟨some false, ?_, .inr ⟨rfl, i, List.mem_cons_self .., hxy⟩⟩
          have hb : (xs.getD i 0 == ys.getD i 0) = false := by rw [beq_eq_false_iff_ne]; exact hxy
          simp only [hb, Bool.not_false, if_true, Sem.run_pure, Result.andThen_ok]
    rw [Op.equalIn]
    simp only [Sem.run_bind, run_underlying ht, Result.andThen_ok, sizeOf, typeInfo, run_program, hq, Sem.run_pure, hs1]
    obtain ⟨r, hr, hh⟩ := hloop (List.range' 0 n 1) (by intro i hi; simp at hi; exact hi)
    rw [Std.Legacy.Range.forIn_eq_forIn_range']
    simp only [Std.Legacy.Range.size, Nat.sub_zero, Nat.add_sub_cancel, Nat.div_one]
    rw [hr]
    rcases hh with ⟨rfl, h2⟩ | ⟨rfl, j, hj, h2⟩
    · have : xs = ys := by
        apply List.ext_getElem (by omega)
        intro i h3 h4
        have := h2 i (by simp; omega)
        simpa [List.getD, h3, h4] using this
      simp [this]
    · have : xs ≠ ys := fun h => h2 (by rw [h])
      simp [this]
theorem run_neq_arr2 {P : Program} {t e : TypeId} {n : Nat} {k : IntKind} (ht : P.underlying t = some (.array n e)) (he : P.underlying e = some (.int k)) (hs : (P.info? e).map (·.size) = some 1)
    (xs ys : List Int) (hl : xs.length = n) (hl2 : ys.length = n) (w : World) : (binOp .neq t (.agg (xs.map (Value.int k)).toArray) (.agg (ys.map (Value.int k)).toArray)).run P w = .ok (.bool (!decide (xs = ys))) w := by
  rw [run_neq_struct, run_equalIn_arr2 ht he hs xs ys hl hl2 9998 w]
  rfl
theorem run_eql_arr2 {P : Program} {t e : TypeId} {n : Nat} {k : IntKind} (ht : P.underlying t = some (.array n e)) (he : P.underlying e = some (.int k)) (hs : (P.info? e).map (·.size) = some 1)
    (xs ys : List Int) (hl : xs.length = n) (hl2 : ys.length = n) (w : World) : (binOp .eql t (.agg (xs.map (Value.int k)).toArray) (.agg (ys.map (Value.int k)).toArray)).run P w = .ok (.bool (decide (xs = ys))) w := by
  rw [run_eql_struct, run_equalIn_arr2 ht he hs xs ys hl hl2 9998 w]
  rfl
end Go.Proofs.YtlgabpcddldelaaDoor
