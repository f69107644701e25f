/-
  A block written whole, read whole, handed back. (A helper text; it claims nothing of the program.)
-/
import Derived.Test.YtlgabpcddldelaaDoorSepPick
import Derived.Test.YtlgabpcddldelaaDoorMakes
import Derived.Laws.ResultCell
import Derived.Laws.Tables
namespace Go.Proofs.YtlgabpcddldelaaDoor
set_option linter.unusedVariables false
open Go.ChangeShapes Go.WideShapes Go.ChangeAt Go.RowKit

theorem St.setRow {w0 w : World} {μ : List Asrt} {g : Nat} {T : TypeId} {cs : Array Value} (h : St w0 w (aCel g T cs :: μ)) (cs' : Array Value) : St w0 (w.setRow g cs') (aCel g T cs' :: μ) := by
  refine h.upd rfl rfl rfl (by simp) (fun b hb hm => ?_) (setRow_heap _ _ _ _ _ _ (h.ok _ (.head _))) (fun b hb => .inl hb) (by simp [aCel])
  exact setRow_other _ _ _ _ (fun e => hm (by simp [aCel, e]))
/-- A result that lies in a block, and one more beside it. -/
theorem results_row_tmp {P : Program} {fn : Func} {p u : Tmp} {ty : TypeId} (h : fn.results = #[.cell p ty, .tmp u]) (tmps : Array Value) (w : World) (g : Nat) (t : TypeId) (cs : Array Value) (d : TypeDesc)
    (hp : tmps.getD p undef = .pointer (some ⟨g, 0, none⟩)) (hg : w.heap[g]? = some (.cells cs t (0, 0))) (hu : P.underlying ty = some d) (hd : (match d with | .struct _ | .array _ _ => true | _ => false) = true) (hi : (P.info? ty).map (·.size) = some cs.size) :
    (results fn tmps).run P w = .ok (.tuple #[.agg cs, tmps.getD u undef]) w := by
  rw [results_cell_tmp h, hp]
  simp [asAddr, run_loadVar_row w g t ty cs (0, 0) d hg hu hd hi, Result.andThen]
theorem results_row {P : Program} {fn : Func} {p : Tmp} {ty : TypeId} (h : fn.results = #[.cell p ty]) (tmps : Array Value) (w : World) (g : Nat) (t : TypeId) (cs : Array Value) (d : TypeDesc)
    (hp : tmps.getD p undef = .pointer (some ⟨g, 0, none⟩)) (hg : w.heap[g]? = some (.cells cs t (0, 0))) (hu : P.underlying ty = some d) (hd : (match d with | .struct _ | .array _ _ => true | _ => false) = true) (hi : (P.info? ty).map (·.size) = some cs.size) :
    (results fn tmps).run P w = .ok (.agg cs) w := results_cell_row h tmps w g t cs (0, 0) d hp hg hu hd hi
/-- A block written whole. -/
theorem St.rowOp {P : Program} {w0 w : World} {μ : List Asrt} {ops : Array Oper} {rest : List Oper} {o : Oper} {a : Act} {Q : Exit → Act → World → Prop} {T : TypeId} {old : Array Value} (hgd : o.guard = none) (ty : TypeId) (x y : Operand) (ho : o.op = .store ty x y) (g : Nat) (cells : Array Value) (hx : a.eval x = .pointer (some ⟨g, 0, none⟩)) (hy : a.eval y = .agg cells)
    (h : St w0 w (aCel g T old :: μ)) (hi : (P.info? ty).map (·.size) = some cells.size) (hold : old.size = cells.size) (h1 : cells.all (·.oneCell') = true)
    (hK : ∀ w', St w0 w' (aCel g T cells :: μ) → wpList P ops Q rest (a.put o.dst undef) w') : wpList P ops Q (o :: rest) a w :=
  wpList_store_row hgd ty x y ho g cells hx hy T old (h.ok _ (.head _)) hi hold h1 (hK _ (h.setRow cells))
/-- A block read whole. -/
theorem St.rowIn {P : Program} {w0 w : World} {μ : List Asrt} {ops : Array Oper} {rest : List Oper} {o : Oper} {a : Act} {Q : Exit → Act → World → Prop} {T : TypeId} {cs : Array Value} (hgd : o.guard = none) (ty : TypeId) (x : Operand) (ho : o.op = .load ty x) (g : Nat) (hx : a.eval x = .pointer (some ⟨g, 0, none⟩)) (d : TypeDesc)
    (h : St w0 w μ) (i : Nat) (hA : μ[i]? = some (aCel g T cs)) (hu : P.underlying ty = some d) (hd : (match d with | .struct _ | .array _ _ => true | _ => false) = true) (hi : (P.info? ty).map (·.size) = some cs.size)
    (hK : wpList P ops Q rest (a.put o.dst (.agg cs)) w) : wpList P ops Q (o :: rest) a w :=
  wpList_load_row hgd ty x ho g hx T cs (0, 0) d (h.heapAt i hA) hu hd hi hK
/-- make([]T, n) at a step of a region that draws its order. -/
theorem St.stepMake {P : Program} {w0 w : World} {μ : List Asrt} {ops : Array Oper} {o : Oper} {a : Act} {K : Act → World → Prop} {Q : Exit → Act → World → Prop} {EE : Prop} {t e : TypeId} {bytes : Nat} {z : Value} (hgd : o.guard = none) (l : Operand) (hop : o.op = Op.makeSlice t l l)
    (ht : P.underlying t = some (.slice e)) (hi : (P.info? e).map (fun i => (i.zero, i.size, i.bytes)) = some (some z, 1, bytes)) (hz : z.cells = #[z]) (h : St w0 w μ) (n : Nat) (hl : a.eval l = .int .i64 (n : Int)) (hn : (bytes : Int) * n ≤ 140737488355328) (hb : 0 < bytes)
    (hK : ∀ g w', St w0 w' (aOwn e 1 (.slice (some ⟨g, 0, none⟩) n n) (List.replicate n z) :: μ) → K (a.put o.dst (.slice (some ⟨g, 0, none⟩) n n)) w') : if Region.wanted o (yielded ops a.tmps) = true then Oper.wp P o a w K Q else EE := by
  have hw : Region.wanted o (yielded ops a.tmps) = true := by simp [Region.wanted, hgd]
  rw [if_pos hw]
  have hn' : bytes * n ≤ 140737488355328 := by rw [← Int.natCast_mul] at hn; omega
  have hle : n ≤ bytes * n := Nat.le_mul_of_pos_left n hb
  have hrun := run_make_row' (P := P) t e z bytes ht hi hz .i64 .i64 n (by omega) (by omega) w
  unfold Oper.wp execOp
  simp only [hop, hl, Sem.run_bind, hrun, Result.andThen_ok, Sem.run_pure]
  refine hK w.heap.size _ ?_
  refine h.push ((Below.refl _ _).alloc (Nat.le_refl _) _) (own_mk w e z hz n (by unfold maxLen; omega)) (fun b hb => ?_) (by simp [aOwn, Value.ownBlock])
  simp [aOwn, Value.ownBlock] at hb
  subst hb
  simp
/-- A new block at such a step. -/
theorem St.stepNew {P : Program} {w0 w : World} {μ : List Asrt} {ops : Array Oper} {o : Oper} {a : Act} {K : Act → World → Prop} {Q : Exit → Act → World → Prop} {EE : Prop} {T : TypeId} {cs : Array Value} (hgd : o.guard = none) (hr : ∀ u : World, (execOp a.eval o).run P u = .ok (.value (.pointer (some ⟨u.heap.size, 0, none⟩))) (u.alloc (.cells cs T)))
    (h : St w0 w μ) (hK : ∀ g w', St w0 w' (aCel g T cs :: μ) → K (a.put o.dst (.pointer (some ⟨g, 0, none⟩))) w') : if Region.wanted o (yielded ops a.tmps) = true then Oper.wp P o a w K Q else EE := by
  have hw : Region.wanted o (yielded ops a.tmps) = true := by simp [Region.wanted, hgd]
  rw [if_pos hw]
  unfold Oper.wp
  rw [hr w]
  exact hK _ _ (h.alloc cs T)
/-- A block written whole at such a step. -/
theorem St.stepRow {P : Program} {w0 w : World} {μ : List Asrt} {ops : Array Oper} {o : Oper} {a : Act} {K : Act → World → Prop} {Q : Exit → Act → World → Prop} {EE : Prop} {T : TypeId} {old : Array Value} (hgd : o.guard = none) (ty : TypeId) (x y : Operand) (ho : o.op = .store ty x y) (g : Nat) (cells : Array Value) (hx : a.eval x = .pointer (some ⟨g, 0, none⟩)) (hy : a.eval y = .agg cells)
    (h : St w0 w (aCel g T old :: μ)) (hi : (P.info? ty).map (·.size) = some cells.size) (hold : old.size = cells.size) (h1 : cells.all (·.oneCell') = true)
    (hK : ∀ w', St w0 w' (aCel g T cells :: μ) → K (a.put o.dst undef) w') : if Region.wanted o (yielded ops a.tmps) = true then Oper.wp P o a w K Q else EE := by
  have hw : Region.wanted o (yielded ops a.tmps) = true := by simp [Region.wanted, hgd]
  rw [if_pos hw]
  exact wp_store_row ty x y ho g cells hx hy T old (h.ok _ (.head _)) hi hold h1 (hK _ (h.setRow cells))
end Go.Proofs.YtlgabpcddldelaaDoor
