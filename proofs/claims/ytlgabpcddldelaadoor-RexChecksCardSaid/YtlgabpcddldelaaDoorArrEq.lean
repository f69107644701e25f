/-
  An array of numbers is equal to itself.
-/
import Derived.Test.YtlgabpcddldelaaDoorRead
namespace Go.Proofs.YtlgabpcddldelaaDoor
open Go.ChangeShapes Go.WideShapes Go.ChangeAt Go.RowKit

theorem run_equalIn_arr {P : Program} {t e : TypeId} {n : Nat} {k : IntKind} (ht : P.underlying t = some (.array n e)) (he : P.underlying e = some (.int k)) (hs : (P.info? e).map (·.size) = some 1)
    (xs : List Int) (hl : xs.length = n) (d : Nat) (w : World) : (Op.equalIn (d + 2) t (.agg (xs.map (Value.int k)).toArray) (.agg (xs.map (Value.int k)).toArray)).run P w = .ok true w := by
  cases hq : P.info? e with
  | none => simp [hq] at hs
  | some inf =>
    have hs1 : inf.size = 1 := by simpa [hq] using hs
    have hpart : ∀ i, i < n → (part e (xs.map (Value.int k)).toArray (i * 1)).run P w = .ok (.int k (xs.getD i 0)) w := by
      intro i hi
      have hil : i < xs.length := by omega
      simp [part, isAgg, run_underlying he, hil]
    have hloop : ∀ (l : List Nat), (∀ i ∈ l, i < n) → (forIn l ((none : Option Bool), ()) (fun i (_ : Option Bool × Unit) => (do
        let a ← part e (xs.map (Value.int k)).toArray (i * 1)
        let b ← part e (xs.map (Value.int k)).toArray (i * 1)
        let c ← Op.equalIn (d + 1) e a b
        if (!c) = true then pure (ForInStep.done (some false, ())) else pure (ForInStep.yield (none, ())) : Sem (ForInStep (Option Bool × Unit))))).run P w = .ok (none, ()) w := by
      intro l
      induction l with
      | nil => intro _; simp
      | cons i l ih =>
        intro h
        have h1 := hpart i (h i (List.mem_cons_self ..))
        simp only [List.forIn_cons, Sem.run_bind, h1, Result.andThen_ok, run_equalIn_int w d e k k _ _ he, beq_self_eq_true, Bool.not_true, Bool.false_eq_true, if_false, Sem.run_pure]
        exact ih fun q hq => h q (List.mem_cons_of_mem _ hq)
    rw [Op.equalIn]
    simp only [Sem.run_bind, run_underlying ht, Result.andThen_ok, sizeOf, typeInfo, run_program, hq, Sem.run_pure, hs1]
    rw [Std.Legacy.Range.forIn_eq_forIn_range', hloop _ (by intro i hi; simp at hi; exact hi)]
    simp

theorem run_neq_arr {P : Program} {t e : TypeId} {n : Nat} {k : IntKind} (ht : P.underlying t = some (.array n e)) (he : P.underlying e = some (.int k)) (hs : (P.info? e).map (·.size) = some 1)
    (xs : List Int) (hl : xs.length = n) (w : World) : (binOp .neq t (.agg (xs.map (Value.int k)).toArray) (.agg (xs.map (Value.int k)).toArray)).run P w = .ok (.bool false) w := by
  rw [run_neq_struct, run_equalIn_arr ht he hs xs hl 9998 w]
  rfl
theorem run_eql_arr {P : Program} {t e : TypeId} {n : Nat} {k : IntKind} (ht : P.underlying t = some (.array n e)) (he : P.underlying e = some (.int k)) (hs : (P.info? e).map (·.size) = some 1)
    (xs : List Int) (hl : xs.length = n) (w : World) : (binOp .eql t (.agg (xs.map (Value.int k)).toArray) (.agg (xs.map (Value.int k)).toArray)).run P w = .ok (.bool true) w := by
  rw [run_eql_struct, run_equalIn_arr ht he hs xs hl 9998 w]
  rfl

/-- A whole array (or struct) read in a region that only reads. -/
theorem wpQuiet_load_mid {P : Program} {w : World} {ops : Array Oper} {rest : List Oper} {o : Oper} {a : Act} {Q : Act → Prop} (ty : TypeId) (x : Operand) (ho : o.op = .load ty x) (hw : Region.wanted o (yielded ops a.tmps) = true)
    (b off : Nat) (hx : a.eval x = .pointer (some ⟨b, off, none⟩)) (cs : List Value) (d : TypeDesc) (hc : w.rangeAt b off cs) (hu : P.underlying ty = some d) (hd : d.isRow = true) (hi : (P.info? ty).map (·.size) = some cs.length)
    (h : wpQuiet P ops (fun w' => ∃ n, w' = w.drewN n) Q rest (a.put o.dst (.agg cs.toArray))) : wpQuiet P ops (fun w' => ∃ n, w' = w.drewN n) Q (o :: rest) a := by
  unfold wpQuiet
  rw [if_pos hw]
  refine ⟨_, ?_, h⟩
  rintro _ ⟨n, rfl⟩
  unfold Oper.quietAt execOp
  simp only [ho, hx, Instr.loadAt, Instr.sureAddr, Sem.run_bind, Sem.run_pure, Result.andThen_ok, run_loadVar_mid (w.drewN n) b off ty cs d hc hu hd hi]
  exact ⟨rfl, rfl⟩
end Go.Proofs.YtlgabpcddldelaaDoor
