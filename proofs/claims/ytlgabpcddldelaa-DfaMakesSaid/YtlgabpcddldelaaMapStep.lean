/-
  v, ok := m[k] and m[k] = v of an own map, and a slice of one element, at the steps of a region that draws its order. (A helper text; it claims nothing of the program.)
-/
import Derived.Test.YtlgabpcddldelaaMapMore
namespace Go.Proofs.Ytlgabpcddldelaa
set_option linter.unusedVariables false
open Go.ChangeShapes Go.WideShapes Go.ChangeAt Go.RowKit Go.ChangeMaps

section
variable {w0 w : World} {μ : List Asrt} {k e t : TypeId} {b n : Nat} {D : DataW Unit} {ops : Array Oper} {o : Oper} {a : Act} {K : Act → World → Prop} {Q : Exit → Act → World → Prop} {EE : Prop}
theorem St.stepLookOk (hgd : o.guard = none) (m x : Operand) (hop : o.op = Op.lookup t m x true) (KL : WideMaps.KeyLaw Try.prog k) (ht : Try.prog.underlying t = some (.map k e)) (he : Try.prog.underlying e = some (.int .i64)) (hz : ∀ u : World, (zeroValue e).run Try.prog u = .ok (.int .i64 0) u) (h : w.ownsMap Try.prog k (plainElem Try.prog e) b n D) (hm : a.eval m = .map (some b)) (key : Value) {kl : Lit} (hx : a.eval x = key) (hkey : keyOf Try.prog k key = some kl)
    (c : Int) (hc : D.atKey kl (.lit (.int .i64 0)) = .lit (.int .i64 c)) (hK : K (a.put o.dst (.tuple #[.int .i64 c, .bool (Maps.has D kl)])) w) : if Region.wanted o (yielded ops a.tmps) = true then Oper.wp Try.prog o a w K Q else EE := by
  have hw : Region.wanted o (yielded ops a.tmps) = true := by simp [Region.wanted, hgd]
  rw [if_pos hw]
  obtain ⟨v, ps, hl, hv⟩ := h.look_ok (Maps.Keyed.of_law KL) ht (hz w) (plainElem_int he (by decide)) hkey
  obtain ⟨c', rfl, hc', _⟩ := plainElem_int_inv he hv
  have h2 := congrArg Prod.fst hc'
  simp only at h2
  rw [hc] at h2
  cases h2
  unfold Oper.wp
  simp [execOp, hop, hm, hx, hl, Result.andThen]
  exact hK
theorem St.stepPut (hgd : o.guard = none) (m x v : Operand) (hop : o.op = Op.mapUpdate t m x v) (KL : WideMaps.KeyLaw Try.prog k) (ht : Try.prog.underlying t = some (.map k e)) (h : St w0 w (aMap k e b n D :: μ)) (hn : n < maxLen) (hm : a.eval m = .map (some b)) (key val : Value) {kl : Lit} (hx : a.eval x = key) (hv : a.eval v = val) (hkey : keyOf Try.prog k key = some kl)
    (d : DataW Unit) (ps : List MemPlace) (hval : plainElem Try.prog e val = some (d, ps)) (hK : ∀ w', St w0 w' (aMap k e b (n + 1) (D.put kl d) :: μ) → K (a.put o.dst undef) w') : if Region.wanted o (yielded ops a.tmps) = true then Oper.wp Try.prog o a w K Q else EE := by
  have hw : Region.wanted o (yielded ops a.tmps) = true := by simp [Region.wanted, hgd]
  rw [if_pos hw]
  obtain ⟨w', hrun, r1, r2⟩ := h.mapOwn.update (Maps.Keyed.of_law KL) ht hn hkey hval
  unfold Oper.wp
  simp [execOp, hop, hm, hx, hv, hrun, Result.andThen]
  exact hK w' (h.mapPut r1 r2)
end
end Go.Proofs.Ytlgabpcddldelaa
