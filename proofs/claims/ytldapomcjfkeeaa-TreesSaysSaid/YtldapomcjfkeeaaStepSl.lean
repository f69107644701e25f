/-
  append(s, l...) at a step of a region that draws its order. (A helper text; it claims nothing of the program.)
-/
import Derived.Test.YtldapomcjfkeeaaEncOps
namespace Go.Proofs.Ytldapomcjfkeeaa
set_option linter.unusedVariables false
open Go.ChangeShapes Go.WideShapes Go.ChangeAt Go.RowKit

/-- append(s, l...) at a step of a region that draws its order. -/
theorem St.stepSl {P : Program} {w0 w : World} {μ : List Asrt} {t e : TypeId} {size bytes b2 : Nat} (E : ET P t e size bytes) {ops : Array Oper} {o : Oper} {a : Act} {K : Act → World → Prop} {Q : Exit → Act → World → Prop} {EE : Prop}
    (hgd : o.guard = none) (s x : Operand) (ho : o.op = .call { callee := .builtin .append, args := #[s, x], argTypes := #[t, t] }) {v : Value} {xs : List Value} (hs : a.eval s = v)
    (h : St w0 w (aOwn e size v xs :: μ)) {α : Type} {En : Enc α} (hes : En.size = size) {F : Nat → Prop} {u : Value} {l : List α} (hl : (En.sl b2).R F w [u] l) (hx : a.eval x = u) (f : α → Value) (hf : ∀ w cs a, En.R F w cs a → cs = (f a).cells.toList) (h1 : ∀ a, ∀ q ∈ (f a).cells.toList, q.oneCell' = true)
    (hroom : ((xs.length + l.length : Nat) : Int) * bytes ≤ 140737488355328) (hlen : ((xs.length + l.length : Nat) : Int) ≤ 140737488355328)
    (hK : ∀ v' w', St w0 w' (aOwn e size v' (xs ++ l.map f) :: μ) → K (a.put o.dst v') w') : if Region.wanted o (yielded ops a.tmps) = true then Oper.wp P o a w K Q else EE := by
  have hw : Region.wanted o (yielded ops a.tmps) = true := by simp [Region.wanted, hgd]
  rw [if_pos hw]
  obtain ⟨ao, b, off, cap, hu, c1, c2, c3, c4, c5, c6⟩ := hl
  simp only [List.cons.injEq, and_true] at hu
  subst hu
  cases ao with
  | none =>
    have hl0 : l.length = 0 := by
      rcases Nat.eq_zero_or_pos l.length with h | h
      · exact h
      · have := (c5 h).1; cases this
    have hl1 := List.eq_nil_of_length_eq_zero hl0
    subst hl1
    have hc := c4 rfl
    subst hc
    obtain ⟨ht, ⟨i, z, hi, hz, hsize, hby, hzs⟩, hp⟩ := E
    have hrun := run_append_owned_none (P := P) (w := w) 0 t o.type e i size ht hi v xs.length (cellsOf xs) (h.ok _ (.head _))
    unfold Oper.wp
    simp [execOp, ho, resolve, invoke, builtin, hs, hx, hrun, Result.andThen]
    exact hK v w (by simpa using h)
  | some ad =>
    have hcells : ∀ i (hi : i < l.length), (∀ j, j < size → w.cell? ⟨b, off + i * size + j, none⟩ = ((f l[i]).cells.toList)[j]?) ∧ (f l[i]).cells.toList.length = size := by
      intro i hi
      obtain ⟨cs, g1, g2, g3⟩ := c6 i hi
      have := hf _ _ _ g3
      subst this
      rw [hes] at g1 g2
      exact ⟨g2, g1⟩
    have hsz : ∀ u ∈ l.map f, u.cells.size = size := by
      intro u hu
      obtain ⟨y, hy, rfl⟩ := List.mem_map.1 hu
      obtain ⟨i, hi, rfl⟩ := List.getElem_of_mem hy
      rw [← Array.length_toList]
      exact (hcells i hi).2
    have hcl := cellsOf_len hsz
    rw [List.length_map] at hcl
    have hpos := E.pos
    have hread : ∀ j q, (cellsOf (l.map f))[j]? = some q → w.cell? (ad.add j) = some q := by
      intro j q hq
      have hj : j < l.length * size := by
        rw [← hcl]
        exact (List.getElem?_eq_some_iff.1 hq).1
      have hl0 : 0 < l.length := by
        rcases Nat.eq_zero_or_pos l.length with h | h
        · rw [h] at hj; omega
        · exact h
      obtain ⟨e1, _, _⟩ := c5 hl0
      cases e1
      have e2 : (⟨b, off, none⟩ : Addr).add j = ⟨b, off + j, none⟩ := by unfold Addr.add; split <;> simp_all
      rw [e2]
      have hi : j / size < l.length := (Nat.div_lt_iff_lt_mul hpos).2 hj
      have hm : j % size < size := Nat.mod_lt _ hpos
      have h3 := (hcells _ hi).1 _ hm
      rw [show off + j / size * size + j % size = off + j by rw [Nat.add_assoc, Nat.div_add_mod']] at h3
      rw [h3, ← hq]
      clear h3 hq
      symm
      have := cellsOf_get hsz (j / size) (by rw [List.length_map]; exact hi) (j % size) hm
      rw [Nat.div_add_mod'] at this
      rw [this]
      simp
    obtain ⟨v', w', hr, h2, h3, h4, h5⟩ := run_append_where (ty := o.type) E (v := v) (xs := xs) (h.ok _ (.head _)) ad l.length cap (cellsOf (l.map f)) hcl hread (by
        intro q hq
        obtain ⟨u, hu, hq2⟩ := List.mem_flatMap.1 hq
        obtain ⟨y, hy, rfl⟩ := List.mem_map.1 hu
        exact h1 y q hq2) (by unfold maxLen; omega) (by rw [← Int.natCast_mul] at hroom; omega)
    unfold Oper.wp execOp
    simp only [ho, resolve, invoke, builtin, Sem.run_bind, Sem.run_pure, Result.andThen_ok, List.map_toArray, List.map_cons, List.map_nil, hs, hx, hr]
    refine hK v' w' ?_
    have ho2 : Own w' 0 e size v' (xs ++ l.map f) := by
      unfold Own
      rw [cellsOf_append, List.length_append, List.length_map]
      exact h2
    refine h.upd h3.os h3.tape h3.output h3.size (fun b hb hm => ?_) ho2 (fun b hb => ?_) (nodup_ob _)
    · exact h3.block b hb fun e => hm (by simp [aOwn, ← e])
    · have hb' : v'.ownBlock = some b := by simpa [aOwn] using hb
      rcases h4 b hb' with h6 | h6
      · exact .inl (by simpa [aOwn] using h6)
      · exact .inr ⟨h6, (ho2.lt b hb').2⟩

end Go.Proofs.Ytldapomcjfkeeaa
