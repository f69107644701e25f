/-
  A slice of pairs that the call made: reading and storing its elements. (A helper text; it claims nothing of the program.)
-/
import Derived.Test.YtldapomcjfkeeaaPairs
import Derived.Test.YtldapomcjfkeeaaSepAll
namespace Go.Proofs.Ytldapomcjfkeeaa
set_option linter.unusedVariables false
open Go.ChangeShapes Go.WideShapes Go.ChangeAt Go.RowKit

theorem Own.setAt {w : World} {B : Nat} {e : TypeId} {size g n cap : Nat} {xs ys : List Value} (h : Own w B e size (.slice (some ⟨g, 0, none⟩) n cap) xs) (p : Nat) (u : Value) (hy : cellsOf ys = (cellsOf xs).set p u) (hl : ys.length = xs.length) :
    Own (w.setCell ⟨g, p, none⟩ u) B e size (.slice (some ⟨g, 0, none⟩) n cap) ys := by
  unfold Own at h ⊢
  rw [hl, hy]
  obtain ⟨h1, h2⟩ := h
  refine ⟨by rw [List.length_set]; exact h1, ?_⟩
  rcases h2 with ⟨h2, _⟩ | ⟨g', cap', cur, hv, hB, hg, hn, hc, hcs, htk⟩
  · cases h2
  · simp only [Value.slice.injEq, Option.some.injEq, Addr.mk.injEq] at hv
    obtain ⟨⟨rfl, _⟩, rfl, rfl⟩ := hv
    refine .inr ⟨g, cap, cur.setIfInBounds p u, rfl, hB, heap_setCell_same _ _ _ _ _ _ hg, hn, hc, by simpa using hcs, ?_⟩
    rw [Array.toList_setIfInBounds, List.take_set, htk]

theorem St.setAt {w0 w : World} {μ : List Asrt} {e : TypeId} {size g n cap : Nat} {xs ys : List Value} (h : St w0 w (aOwn e size (.slice (some ⟨g, 0, none⟩) n cap) xs :: μ)) (p : Nat) (u : Value) (hy : cellsOf ys = (cellsOf xs).set p u) (hl : ys.length = xs.length) :
    St w0 (w.setCell ⟨g, p, none⟩ u) (aOwn e size (.slice (some ⟨g, 0, none⟩) n cap) ys :: μ) := by
  refine h.upd rfl rfl rfl (by simp) (fun b hb hm => ?_) (Own.setAt (h.ok _ (.head _)) p u hy hl) (fun b hb => .inl hb) (by simp [aOwn, Value.ownBlock])
  exact heap_setCell_other _ _ _ _ (fun e => hm (by simp [aOwn, Value.ownBlock, e]))

theorem cells_fst (l : List (Int × Int)) (q : Nat) (a : Int) (d : Int × Int) (hq : q < l.length) : cellsOf ((l.set q (a, (l.getD q d).2)).map pairV) = (cellsOf (l.map pairV)).set (q * 2) (.int .i64 a) := by
  induction l generalizing q with
  | nil => simp at hq
  | cons x r ih =>
    cases q with
    | zero => simp [cellsOf, pairV, Value.cells]
    | succ q =>
      have := ih q (by simpa using hq)
      simp only [List.set_cons_succ, List.map_cons, cellsOf, List.flatMap_cons, List.getD_cons_succ] at this ⊢
      rw [this, show (q + 1) * 2 = q * 2 + 1 + 1 by omega]
      simp [pairV, Value.cells]
theorem cells_snd (l : List (Int × Int)) (q : Nat) (a : Int) (d : Int × Int) (hq : q < l.length) : cellsOf ((l.set q ((l.getD q d).1, a)).map pairV) = (cellsOf (l.map pairV)).set (q * 2 + 1) (.int .i64 a) := by
  induction l generalizing q with
  | nil => simp at hq
  | cons x r ih =>
    cases q with
    | zero => simp [cellsOf, pairV, Value.cells]
    | succ q =>
      have := ih q (by simpa using hq)
      simp only [List.set_cons_succ, List.map_cons, cellsOf, List.flatMap_cons, List.getD_cons_succ] at this ⊢
      rw [this, show (q + 1) * 2 + 1 = q * 2 + 1 + 1 + 1 by omega]
      simp [pairV, Value.cells]

section
variable {w0 w : World} {μ : List Asrt} {e : TypeId} {g n cap : Nat} {l : List (Int × Int)}
theorem St.setPair (h : St w0 w (aOwn e 2 (.slice (some ⟨g, 0, none⟩) n cap) (l.map pairV) :: μ)) (q : Nat) (hq : q < l.length) (x : Int × Int) :
    St w0 ((w.setCell ⟨g, q * 2, none⟩ (.int .i64 x.1)).setCell ⟨g, q * 2 + 1, none⟩ (.int .i64 x.2)) (aOwn e 2 (.slice (some ⟨g, 0, none⟩) n cap) ((l.set q x).map pairV) :: μ) := by
  have h1 := h.setAt (q * 2) (.int .i64 x.1) (cells_fst l q x.1 (0, 0) hq) (by simp)
  have h2 := h1.setAt (q * 2 + 1) (.int .i64 x.2) (cells_snd _ q x.2 (0, 0) (by simpa using hq)) (by simp)
  have e1 : ((l.set q (x.1, (l.getD q (0, 0)).2)).set q (((l.set q (x.1, (l.getD q (0, 0)).2)).getD q (0, 0)).1, x.2)) = l.set q x := by
    rw [List.set_set]
    congr 1
    simp [List.getD, hq]
  rw [e1] at h2
  exact h2
theorem St.cellPair (h : St w0 w (aOwn e 2 (.slice (some ⟨g, 0, none⟩) n cap) (l.map pairV) :: μ)) (q : Nat) (hq : q < l.length) :
    w.cell? ⟨g, q * 2, none⟩ = some (.int .i64 (l.getD q (0, 0)).1) ∧ w.cell? ⟨g, q * 2 + 1, none⟩ = some (.int .i64 (l.getD q (0, 0)).2) ∧ w.frozen? ⟨g, q * 2, none⟩ = false ∧ w.frozen? ⟨g, q * 2 + 1, none⟩ = false := by
  have ho := h.own
  have hr := ho
  unfold Own at hr
  have hg : ∃ cur T, w.heap[g]? = some (.cells cur T (0, 0)) := by
    rcases hr.2 with ⟨h2, _⟩ | ⟨g', cap', cur, hv, hB, hg, _⟩
    · cases h2
    · simp only [Value.slice.injEq, Option.some.injEq, Addr.mk.injEq] at hv
      obtain ⟨⟨rfl, _⟩, rfl, rfl⟩ := hv
      exact ⟨cur, _, hg⟩
  obtain ⟨cur, T, hg⟩ := hg
  have hcl := cellsOf_len (size := 2) (us := l.map pairV) (fun u hu => by obtain ⟨x, _, rfl⟩ := List.mem_map.1 hu; rfl)
  rw [List.length_map] at hcl
  have hx : (l.map pairV)[q]'(by simpa using hq) = pairV (l.getD q (0, 0)) := by simp [List.getD, hq]
  have hgt := fun j (hj : j < 2) => cellsOf_get (size := 2) (us := l.map pairV) (fun u hu => by obtain ⟨x, _, rfl⟩ := List.mem_map.1 hu; rfl) q (by simpa using hq) j hj
  rw [hx] at hgt
  have hcells := World.ownsRow.cells (g := g) hr rfl
  have c0 := hcells (q * 2) _ (by have := hgt 0 (by decide); rw [Nat.add_zero] at this; rw [this]; rfl)
  have c1 := hcells (q * 2 + 1) _ (by have := hgt 1 (by decide); rw [this]; rfl)
  have ad : ∀ p, (⟨g, 0, none⟩ : Addr).add p = ⟨g, p, none⟩ := fun p => by unfold Addr.add; split <;> simp_all
  rw [ad] at c0 c1
  exact ⟨c0, c1, frozen_of_row _ _ _ _ _ hg, frozen_of_row _ _ _ _ _ hg⟩
end
end Go.Proofs.Ytldapomcjfkeeaa
