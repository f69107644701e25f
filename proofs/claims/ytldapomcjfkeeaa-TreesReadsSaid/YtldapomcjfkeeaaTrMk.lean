/-
  A slice of trees that is made, and filled from its end. (A helper text; it claims nothing of the program.)
-/
import Derived.Test.YtldapomcjfkeeaaTrRd2
import Derived.OwnWalk
namespace Go.Proofs.Ytldapomcjfkeeaa
set_option linter.unusedVariables false
open Go.ChangeShapes Go.WideShapes Go.ChangeAt Go.RowKit

theorem Tr.setAt3 {w0 w : World} {μ : List Asrt} {e : TypeId} {size g n cap : Nat} {xs ys : List Value} (h : St w0 w (aOwn e size (.slice (some ⟨g, 0, none⟩) n cap) xs :: μ)) (p : Nat) (u0 u1 u2 : Value) (hy : cellsOf ys = (((cellsOf xs).set p u0).set (p + 1) u1).set (p + 2) u2) (hl : ys.length = xs.length) :
    St w0 (((w.setCell ⟨g, p, none⟩ u0).setCell ⟨g, p + 1, none⟩ u1).setCell ⟨g, p + 2, none⟩ u2) (aOwn e size (.slice (some ⟨g, 0, none⟩) n cap) ys :: μ) := by
  have hh := h.ok _ (.head _)
  refine h.upd rfl rfl rfl (by simp) (fun b hb hm => ?_) ?_ (fun b hb => .inl hb) (by simp [aOwn, Value.ownBlock])
  · have hne : b ≠ g := fun e => hm (by simp [aOwn, Value.ownBlock, e])
    exact ((heap_setCell_other _ _ _ _ (fun e => hne e)).trans (heap_setCell_other _ _ _ _ (fun e => hne e))).trans (heap_setCell_other _ _ _ _ (fun e => hne e))
  · simp only [aOwn] at hh ⊢
    unfold Own at hh ⊢
    rw [hl, hy]
    obtain ⟨h1, h2⟩ := hh
    refine ⟨by rw [List.length_set, List.length_set, List.length_set]; exact h1, ?_⟩
    rcases h2 with ⟨h2, _⟩ | ⟨g', cap', cur, hv, hB, hg, hn, hc, hcs, htk⟩
    · cases h2
    · simp only [Value.slice.injEq, Option.some.injEq, Addr.mk.injEq] at hv
      obtain ⟨⟨rfl, _⟩, rfl, rfl⟩ := hv
      refine .inr ⟨g, cap, ((cur.setIfInBounds p u0).setIfInBounds (p + 1) u1).setIfInBounds (p + 2) u2, rfl, hB, heap_setCell_same _ _ _ _ _ _ (heap_setCell_same _ _ _ _ _ _ (heap_setCell_same _ _ _ _ _ _ hg)), hn, hc, by simpa using hcs, ?_⟩
      rw [Array.toList_setIfInBounds, Array.toList_setIfInBounds, Array.toList_setIfInBounds, List.take_set, List.take_set, List.take_set, htk]
namespace Tr
theorem cells3 (L : List K3) (x : K3) : ∀ (q : Nat), q < L.length → cellsOf ((L.set q x).map kidV) = (((cellsOf (L.map kidV)).set (q * 3) (.int .i64 x.1.prod)).set (q * 3 + 1) (.int .i64 x.1.tok)).set (q * 3 + 2) x.2.1 := by
  induction L with
  | nil => intro q hq; simp at hq
  | cons y r ih =>
    intro q hq
    cases q with
    | zero => simp [cellsOf, kidV, Value.cells]
    | succ q =>
      have := ih q (by simpa using hq)
      simp only [List.set_cons_succ, List.map_cons, cellsOf, List.flatMap_cons] at this ⊢
      rw [this, show (q + 1) * 3 = q * 3 + 1 + 1 + 1 by omega, show q * 3 + 1 + 1 + 1 + 1 = q * 3 + 1 + 1 + 1 + 1 by omega, show q * 3 + 1 + 1 + 1 + 2 = q * 3 + 2 + 1 + 1 + 1 by omega]
      simp [kidV, Value.cells]
theorem setKid {w0 w : World} {μ : List Asrt} {g n cap : Nat} {L : List K3} (h : St w0 w (aOwn 71 3 (.slice (some ⟨g, 0, Option.none⟩) n cap) (L.map kidV) :: μ)) (q : Nat) (hq : q < L.length) (x : K3) :
    St w0 (((w.setCell ⟨g, q * 3, Option.none⟩ (.int .i64 x.1.prod)).setCell ⟨g, q * 3 + 1, Option.none⟩ (.int .i64 x.1.tok)).setCell ⟨g, q * 3 + 2, Option.none⟩ x.2.1) (aOwn 71 3 (.slice (some ⟨g, 0, Option.none⟩) n cap) ((L.set q x).map kidV) :: μ) :=
  setAt3 h (q * 3) _ _ _ (cells3 L x q hq) (by simp)
def kz : K3 := (nil, .slice Option.none 0 0, [])
theorem made_kids (n : Nat) : (madeCells #[.int .i64 0, .int .i64 0, .slice Option.none 0 0] (n * 3)).toList = cellsOf ((List.replicate n kz).map kidV) := by
  induction n with
  | zero => simp [madeCells, cellsOf]
  | succ n ih =>
    rw [List.replicate_succ', List.map_append, cellsOf_append, ← ih]
    simp only [madeCells, Array.toList_map, Array.toList_range, List.map_cons, List.map_nil]
    rw [show (n + 1) * 3 = n * 3 + 1 + 1 + 1 by omega, List.range_succ, List.range_succ, List.range_succ]
    simp only [List.map_append, List.map_cons, List.map_nil, List.append_assoc]
    congr 1
    simp [cellsOf, kidV, kz, nil, Value.cells, prod, tok, show n * 3 % 3 = 0 by omega, show (n * 3 + 1) % 3 = 1 by omega, show (n * 3 + 1 + 1) % 3 = 2 by omega]
end Tr
/-- One assertion more at the head of many. -/
theorem St.consAll {w0 w : World} {A : Asrt} {As μ : List Asrt} (h : St w0 w (A :: aAll As :: μ)) : St w0 w (aAll (A :: As) :: μ) :=
  h.merge (by simp [aAll]) (fun h1 h2 B hB => by
    rcases List.mem_cons.1 hB with rfl | hB
    · exact h1
    · exact h2 B hB)
theorem Tr.makeKids {w0 w : World} {μ : List Asrt} {ops : Array Oper} {rest : List Oper} {o : Oper} {a : Act} {Q : Exit → Act → World → Prop} (hgd : o.guard = none) (l : Operand) (hop : o.op = Op.makeSlice 69 l l) (h : St w0 w μ) (n : Nat) (hl : a.eval l = .int .i64 (n : Int)) (hn : n ≤ 1000)
    (hK : ∀ w', St w0 w' (aOwn 71 3 (.slice (some ⟨w.heap.size, 0, none⟩) n n) ((List.replicate n Tr.kz).map Tr.kidV) :: μ) → wpList Try.prog ops Q rest (a.put o.dst (.slice (some ⟨w.heap.size, 0, none⟩) n n)) w') : wpList Try.prog ops Q (o :: rest) a w := by
  have hi : (Try.prog.info? 71).map (fun i => (i.zero, i.size, i.bytes)) = some (some (.agg #[.int .i64 0, .int .i64 0, .slice none 0 0]), 3, 40) := by kernel_rfl
  obtain ⟨i, h1, h2, h3, h4⟩ := info_parts hi
  refine wpList_make_full w hgd l l 69 hop w.heap.size 71 i _ 3 Try.underlying69 h1 h2 h3 .i64 .i64 n n n hl hl rfl rfl (by rw [h4]; omega) (by unfold maxLen; omega) (Nat.le_refl _) (fun w' r1 r2 => hK w' ?_)
  refine h.pushOwn ⟨r2.os, r2.tape, r2.output, r2.size, fun k hk => r2.block k hk (by simp)⟩ ?_
  unfold Own
  rw [List.length_map, List.length_replicate, ← Tr.made_kids]
  exact r1
end Go.Proofs.Ytldapomcjfkeeaa
