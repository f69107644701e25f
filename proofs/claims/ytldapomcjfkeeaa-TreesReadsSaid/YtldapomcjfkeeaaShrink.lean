/-
  A slice that the call made, cut short; an append that finds no room. (A helper text; it claims nothing of the program.)
-/
import Derived.Test.YtldapomcjfkeeaaSepAt
namespace Go.Proofs.Ytldapomcjfkeeaa
set_option linter.unusedVariables false
open Go.ChangeShapes Go.WideShapes Go.ChangeAt Go.RowKit

theorem cellsOf_take {size : Nat} {us : List Value} (h : ∀ u ∈ us, u.cells.size = size) (m : Nat) : cellsOf (us.take m) = (cellsOf us).take (m * size) := by
  have h1 : cellsOf us = cellsOf (us.take m) ++ cellsOf (us.drop m) := by rw [← cellsOf_append, List.take_append_drop]
  by_cases hm : m ≤ us.length
  · have h2 := cellsOf_len (size := size) (us := us.take m) (fun u hu => h u (List.mem_of_mem_take hu))
    rw [List.length_take, Nat.min_eq_left hm] at h2
    rw [h1, ← h2, List.take_left]
  · have h2 := cellsOf_len (size := size) (us := us) h
    rw [List.take_of_length_le (by omega), List.take_of_length_le]
    rw [h2]
    exact Nat.mul_le_mul_right _ (by omega)

theorem Own.take {w : World} {B : Nat} {e : TypeId} {size g n cap : Nat} {xs : List Value} (h : Own w B e size (.slice (some ⟨g, 0, none⟩) n cap) xs) (hu : ∀ u ∈ xs, u.cells.size = size) (m : Nat) (hm : m ≤ xs.length) :
    Own w B e size (.slice (some ⟨g, 0, none⟩) m cap) (xs.take m) := by
  unfold Own at h ⊢
  have hl : (xs.take m).length = m := by simp; omega
  rw [hl, cellsOf_take hu]
  obtain ⟨h1, h2⟩ := h
  have hle : m * size ≤ xs.length * size := Nat.mul_le_mul_right _ hm
  refine ⟨by rw [List.length_take, h1]; omega, ?_⟩
  rcases h2 with ⟨h2, _⟩ | ⟨g', cap', cur, hv, hB, hg, hn, hc, hcs, htk⟩
  · cases h2
  · simp only [Value.slice.injEq, Option.some.injEq, Addr.mk.injEq] at hv
    obtain ⟨⟨rfl, _⟩, rfl, rfl⟩ := hv
    refine .inr ⟨g, cap, cur, rfl, hB, hg, by omega, hc, hcs, ?_⟩
    rw [← htk, List.take_take]
    congr 1
    omega

theorem St.take {w0 w : World} {μ : List Asrt} {e : TypeId} {size g n cap : Nat} {xs : List Value} (h : St w0 w (aOwn e size (.slice (some ⟨g, 0, none⟩) n cap) xs :: μ)) (hu : ∀ u ∈ xs, u.cells.size = size) (m : Nat) (hm : m ≤ xs.length) :
    St w0 w (aOwn e size (.slice (some ⟨g, 0, none⟩) m cap) (xs.take m) :: μ) :=
  h.turn rfl ((Own.take (B := 0) (h.ok _ (.head _)) hu m hm))

/-- append(s, u), s being full: a new row, whatever s is. -/
theorem run_append_full {P : Program} {w : World} {t ty e : TypeId} {size bytes : Nat} (E : ET P t e size bytes) (b : Addr) (xs : List Value) (m : Nat) (hm : m = xs.length) (hxs : ∀ u ∈ xs, u.cells.size = size)
    (hread : ∀ j q, (cellsOf xs)[j]? = some q → w.cell? (b.add j) = some q) (u : Value) (a : Addr) (c : Nat) (hsz : u.cells.size = size) (hu : ∀ j q, u.cells.toList[j]? = some q → w.cell? (a.add j) = some q)
    (hlen : xs.length + 1 ≤ maxLen) (hroom : (xs.length + 1) * bytes ≤ 140737488355328) :
    ∃ cap w', (Builtin.append_ #[t, t] ty #[.slice (some b) m m, .slice (some a) 1 c]).run P w = .ok (.slice (some ⟨w.heap.size, 0, none⟩) (m + 1) cap) w' ∧
      Own w' w.heap.size e size (.slice (some ⟨w.heap.size, 0, none⟩) (m + 1) cap) (xs ++ [u]) ∧ Below w.heap.size w w' := by
  obtain ⟨ht, ⟨i, z, hi, hz, hsize, hby, hzs⟩, hp⟩ := E
  subst hsize hby hm
  have hcl := cellsOf_len hxs
  have hul : u.cells.toList.length = i.size := by rw [Array.length_toList]; exact hsz
  unfold maxLen at hlen
  have hr := run_append_grow (P := P) w t ty e i z ht hi hz b xs.length xs.length (cellsOf xs) hcl hread a 1 c u.cells.toList (by omega) hu (by omega) (by omega) (growslice_fits (by omega) hroom)
  refine ⟨_, _, hr, ?_, ?_⟩
  · unfold Own
    rw [cellsOf_append, oneCells, List.length_append, List.length_singleton]
    have hge := grownCap_ge w (xs.length + 1) xs.length e
    have hcm : grownCap w (xs.length + 1) xs.length e ≤ maxLen := grownCap_le_maxLen w (xs.length + 1) xs.length e (by unfold maxLen; omega)
    have hll : (cellsOf xs ++ u.cells.toList).length = (xs.length + 1) * i.size := by rw [List.length_append, hcl, hul, Nat.add_mul, Nat.one_mul]
    refine ⟨hll, .inr ⟨w.heap.size, _, _, rfl, Nat.le_refl _, heap_alloc_new w.drew _, hge, hcm, ?_, ?_⟩⟩
    · rw [Array.size_append, Array.size_append, List.size_toArray, List.size_toArray, size_zeroCells, hzs, ← List.length_append, hll, ← Nat.add_mul]
      congr 1
      omega
    · simp only [Array.toList_append, List.append_assoc]
      rw [← List.append_assoc, ← hll]
      exact List.take_left
  · exact (Below.refl _ _).drew.alloc (Nat.le_refl _) _

theorem St.wpAppFull {P : Program} {w0 w : World} {μ : List Asrt} {t e : TypeId} {size bytes : Nat} (E : ET P t e size bytes) {o : Oper} {a : Act} {K : Act → World → Prop} {Q : Exit → Act → World → Prop}
    (s x : Operand) (ho : o.op = .call { callee := .builtin .append, args := #[s, x], argTypes := #[t, t] }) (h : St w0 w μ) (b : Addr) (xs : List Value) (m : Nat) (hm : m = xs.length) (hs : a.eval s = .slice (some b) m m) (hxs : ∀ u ∈ xs, u.cells.size = size)
    (hread : ∀ j q, (cellsOf xs)[j]? = some q → w.cell? (b.add j) = some q) (u : Value) (ad : Addr) (c : Nat) (hx : a.eval x = .slice (some ad) 1 c) (hsz : u.cells.size = size) (hu : ∀ j q, u.cells.toList[j]? = some q → w.cell? (ad.add j) = some q)
    (hlen : xs.length + 1 ≤ maxLen) (hroom : (xs.length + 1) * bytes ≤ 140737488355328)
    (hK : ∀ g' cap w', St w0 w' (aOwn e size (.slice (some ⟨g', 0, none⟩) (m + 1) cap) (xs ++ [u]) :: μ) → K (a.put o.dst (.slice (some ⟨g', 0, none⟩) (m + 1) cap)) w') : o.wp P a w K Q := by
  obtain ⟨cap, w', hr, ho2, hb⟩ := run_append_full (ty := o.type) E b xs m hm hxs hread u ad c hsz hu hlen hroom
  unfold Oper.wp execOp
  simp only [ho, resolve, invoke, builtin, Sem.run_bind, Sem.run_pure, Result.andThen_ok, List.map_toArray, List.map_cons, List.map_nil, hs, hx, hr]
  exact hK _ cap w' (h.pushOwn hb ho2)

theorem St.appFull {P : Program} {w0 w : World} {μ : List Asrt} {t e : TypeId} {size bytes : Nat} (E : ET P t e size bytes) {ops : Array Oper} {rest : List Oper} {o : Oper} {a : Act} {Q : Exit → Act → World → Prop} (hgd : o.guard = none)
    (s x : Operand) (ho : o.op = .call { callee := .builtin .append, args := #[s, x], argTypes := #[t, t] }) (h : St w0 w μ) (b : Addr) (xs : List Value) (m : Nat) (hm : m = xs.length) (hs : a.eval s = .slice (some b) m m) (hxs : ∀ u ∈ xs, u.cells.size = size)
    (hread : ∀ j q, (cellsOf xs)[j]? = some q → w.cell? (b.add j) = some q) (u : Value) (ad : Addr) (c : Nat) (hx : a.eval x = .slice (some ad) 1 c) (hsz : u.cells.size = size) (hu : ∀ j q, u.cells.toList[j]? = some q → w.cell? (ad.add j) = some q)
    (hlen : xs.length + 1 ≤ maxLen) (hroom : (xs.length + 1) * bytes ≤ 140737488355328)
    (hK : ∀ g' cap w', St w0 w' (aOwn e size (.slice (some ⟨g', 0, none⟩) (m + 1) cap) (xs ++ [u]) :: μ) → wpList P ops Q rest (a.put o.dst (.slice (some ⟨g', 0, none⟩) (m + 1) cap)) w') : wpList P ops Q (o :: rest) a w :=
  wpList_plain hgd fun K hK' => St.wpAppFull E s x ho h b xs m hm hs hxs hread u ad c hx hsz hu hlen hroom fun g' cap w' h' => hK' _ _ (hK g' cap w' h')
/-- The same, u laid into a new block just before. -/
theorem St.appFull1n {P : Program} {w0 W : World} {μ : List Asrt} {t e : TypeId} {size bytes : Nat} (E : ET P t e size bytes) {ops : Array Oper} {rest : List Oper} {o : Oper} {a : Act} {Q : Exit → Act → World → Prop} {cs : Array Value} {T : TypeId} (hgd : o.guard = none)
    (s x : Operand) (ho : o.op = .call { callee := .builtin .append, args := #[s, x], argTypes := #[t, t] }) (h : St w0 W μ) (b : Addr) (xs : List Value) (m : Nat) (hm : m = xs.length) (hs : a.eval s = .slice (some b) m m) (hxs : ∀ u ∈ xs, u.cells.size = size)
    (hread : ∀ j q, (cellsOf xs)[j]? = some q → (W.alloc (.cells cs T)).cell? (b.add j) = some q) (u : Value) (hcs : cs = u.cells) (g c : Nat) (hx : a.eval x = .slice (some ⟨g, 0, none⟩) 1 c) (hg : g = W.heap.size) (hsz : u.cells.size = size)
    (hlen : xs.length + 1 ≤ maxLen) (hroom : (xs.length + 1) * bytes ≤ 140737488355328)
    (hK : ∀ g' cap w', St w0 w' (aOwn e size (.slice (some ⟨g', 0, none⟩) (m + 1) cap) (xs ++ [u]) :: μ) → wpList P ops Q rest (a.put o.dst (.slice (some ⟨g', 0, none⟩) (m + 1) cap)) w') : wpList P ops Q (o :: rest) a (W.alloc (.cells cs T)) := by
  subst hg hcs
  refine St.appFull E hgd s x ho (h.skip _) b xs m hm hs hxs hread u ⟨_, 0, none⟩ c hx hsz (fun j q hq => ?_) hlen hroom hK
  have hadd : (⟨W.heap.size, 0, none⟩ : Addr).add j = ⟨W.heap.size, j, none⟩ := by unfold Addr.add; split <;> simp_all
  rw [hadd]
  exact cells_lit _ _ j q hq
/-- append(s, u) at a step of a region that draws its order, u lying wherever it lies. -/
theorem St.stepU {P : Program} {w0 w : World} {μ : List Asrt} {t e : TypeId} {size bytes : Nat} (E : ET P t e size bytes) {ops : Array Oper} {o : Oper} {a : Act} {K : Act → World → Prop} {Q : Exit → Act → World → Prop} {EE : Prop}
    (hgd : o.guard = none) (s x : Operand) (ho : o.op = .call { callee := .builtin .append, args := #[s, x], argTypes := #[t, t] }) {v : Value} {xs : List Value} (hs : a.eval s = v)
    (h : St w0 w (aOwn e size v xs :: μ)) (u : Value) (g c : Nat) (hx : a.eval x = .slice (some ⟨g, 0, none⟩) 1 c) (hu : ∀ j q, u.cells.toList[j]? = some q → w.cell? ⟨g, j, none⟩ = some q)
    (hsz : u.cells.size = size) (h1 : ∀ q ∈ u.cells.toList, q.oneCell' = true) (hlen : xs.length + 1 ≤ maxLen) (hroom : (xs.length + 1) * bytes ≤ 140737488355328)
    (hK : ∀ g' n' cap w', St w0 w' (aOwn e size (.slice (some ⟨g', 0, none⟩) n' cap) (xs ++ [u]) :: μ) → K (a.put o.dst (.slice (some ⟨g', 0, none⟩) n' cap)) w') :
    if Region.wanted o (yielded ops a.tmps) = true then Oper.wp P o a w K Q else EE := by
  have hw : Region.wanted o (yielded ops a.tmps) = true := by simp [Region.wanted, hgd]
  rw [if_pos hw]
  refine St.wpApp E s x ho hs h [u] ⟨g, 0, none⟩ 1 c hx rfl (fun j q hq => ?_) (by simpa using hsz) (by rw [oneCells]; exact h1) (by omega) hlen hroom hK
  have hadd : (⟨g, 0, none⟩ : Addr).add j = ⟨g, j, none⟩ := by unfold Addr.add; split <;> simp_all
  rw [hadd]
  rw [oneCells] at hq
  exact hu j q hq
theorem St.celsAt {w0 w : World} {μ : List Asrt} {g : Nat} {T : TypeId} {u : Value} (h : St w0 w μ) (i : Nat) (hA : μ[i]? = some (aCel g T u.cells)) : ∀ j q, u.cells.toList[j]? = some q → w.cell? ⟨g, j, none⟩ = some q := by
  intro j q hq
  refine (h.nth i hA).celAt ?_
  simpa using hq
theorem St.ofBel {w w' : World} (hb : Below w.heap.size w w') : St w w' [] := (St.init w).call hb
end Go.Proofs.Ytldapomcjfkeeaa
