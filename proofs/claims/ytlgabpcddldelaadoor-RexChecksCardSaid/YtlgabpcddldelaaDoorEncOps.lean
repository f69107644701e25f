/-
  Steps of a walk over what the call owns and what came in: make, append, reading back. (A helper text; it claims nothing of the program.)
-/
import Derived.Test.YtlgabpcddldelaaDoorEnc
import Derived.Deep.OwnRows
import Derived.Laws.AppendOwnNone
namespace Go.Proofs.YtlgabpcddldelaaDoor
set_option linter.unusedVariables false
open Go.ChangeShapes Go.WideShapes Go.ChangeAt Go.RowKit

theorem cells_one_list {z : Value} (hz : z.cells = #[z]) (n : Nat) : cellsOf (List.replicate n z) = List.replicate n z := by
  induction n with
  | zero => rfl
  | succ n ih => rw [List.replicate_succ]; simp only [cellsOf, List.flatMap_cons, hz] at ih ⊢; rw [ih]; rfl

theorem own_mk (w : World) (e : TypeId) (z : Value) (hz : z.cells = #[z]) (n : Nat) (hn : n ≤ maxLen) : Own (w.alloc (.cells (madeCells #[z] n) e)) 0 e 1 (.slice (some ⟨w.heap.size, 0, none⟩) n n) (List.replicate n z) := by
  unfold Own
  rw [cells_one_list hz, List.length_replicate]
  refine ⟨by simp, .inr ⟨w.heap.size, n, madeCells #[z] n, rfl, Nat.zero_le _, heap_alloc_new _ _, Nat.le_refl _, hn, ?_, ?_⟩⟩
  · simp [madeCells]
  · simp only [madeCells, Array.toList_map, Array.toList_range, Nat.mul_one]
    rw [List.take_of_length_le (by simp)]
    apply List.ext_getElem (by simp)
    intro i h1 h2
    simp [Nat.mod_one]

/-- make([]T, n), an element being one cell. -/
theorem St.make {P : Program} {w0 w : World} {μ : List Asrt} {ops : Array Oper} {rest : List Oper} {o : Oper} {a : Act} {Q : Exit → Act → World → Prop} {t e : TypeId} {bytes : Nat} {z : Value} (hgd : o.guard = none) (l : Operand) (hop : o.op = Op.makeSlice t l l)
    (ht : P.underlying t = some (.slice e)) (hi : (P.info? e).map (fun i => (i.zero, i.size, i.bytes)) = some (some z, 1, bytes)) (hz : z.cells = #[z]) (h : St w0 w μ) (n : Nat) (hl : a.eval l = .int .i64 (n : Int)) (hn : (bytes : Int) * n ≤ 140737488355328) (hb : 0 < bytes)
    (hK : ∀ g w', St w0 w' (aOwn e 1 (.slice (some ⟨g, 0, none⟩) n n) (List.replicate n z) :: μ) → wpList P ops Q rest (a.put o.dst (.slice (some ⟨g, 0, none⟩) n n)) w') : wpList P ops Q (o :: rest) a w := by
  obtain ⟨i, h1, h2, h3, h4⟩ := info_parts hi
  have hle : n ≤ bytes * n := Nat.le_mul_of_pos_left n hb
  have hn' : bytes * n ≤ 140737488355328 := by rw [← Int.natCast_mul] at hn; omega
  refine wpList_make_row w hgd l l t hop e i z ht h1 h2 h3 hz .i64 .i64 n hl hl (by rw [h4]; omega) (by omega) (hK w.heap.size _ ?_)
  refine h.push ((Below.refl _ _).alloc (Nat.le_refl _) _) (own_mk w e z hz n (by unfold maxLen; omega)) (fun b hb => ?_) (by simp [aOwn, Value.ownBlock])
  simp [aOwn, Value.ownBlock] at hb
  subst hb
  simp

/-- append(s, l...) of a slice that reads as a list. -/
theorem St.appSl {P : Program} {w0 w : World} {μ : List Asrt} {t e : TypeId} {size bytes b2 : Nat} (E : ET P t e size bytes) {ops : Array Oper} {rest : List Oper} {o : Oper} {a : Act} {Q : Exit → Act → World → Prop}
    (hgd : o.guard = none) (s x : Operand) (ho : o.op = .call { callee := .builtin .append, args := #[s, x], argTypes := #[t, t] }) {v : Value} {xs : List Value} (hs : a.eval s = v)
    (h : St w0 w (aOwn e size v xs :: μ)) {α : Type} {En : Enc α} (hes : En.size = size) {F : Nat → Prop} {u : Value} {l : List α} (hl : (En.sl b2).R F w [u] l) (hx : a.eval x = u) (f : α → Value) (hf : ∀ w cs a, En.R F w cs a → cs = (f a).cells.toList) (h1 : ∀ a, ∀ q ∈ (f a).cells.toList, q.oneCell' = true)
    (hroom : ((xs.length + l.length : Nat) : Int) * bytes ≤ 140737488355328) (hlen : ((xs.length + l.length : Nat) : Int) ≤ 140737488355328)
    (hK : ∀ v' w', St w0 w' (aOwn e size v' (xs ++ l.map f) :: μ) → wpList P ops Q rest (a.put o.dst v') w') : wpList P ops Q (o :: rest) a w := by
  obtain ⟨ao, b, off, cap, hu, c1, c2, c3, c4, c5, c6⟩ := hl
  simp only [List.cons.injEq, and_true] at hu
  subst hu
  cases ao with
  | none =>
    have hl0 : l.length = 0 := by
      rcases Nat.eq_zero_or_pos l.length with h | h
      · exact h
      · have := (c5 h).1; cases this
    have hl1 := List.eq_nil_of_length_eq_zero hl0
    subst hl1
    have hc := c4 rfl
    subst hc
    obtain ⟨ht, ⟨i, z, hi, hz, hsize, hby, hzs⟩, hp⟩ := E
    refine wpList_append_own_none hgd s x t ho 0 e i size ht hi v xs.length (cellsOf xs) hs (h.ok _ (.head _)) hx (hK v w ?_)
    simpa using h
  | some ad =>
    have hcells : ∀ i (hi : i < l.length), (∀ j, j < size → w.cell? ⟨b, off + i * size + j, none⟩ = ((f l[i]).cells.toList)[j]?) ∧ (f l[i]).cells.toList.length = size := by
      intro i hi
      obtain ⟨cs, g1, g2, g3⟩ := c6 i hi
      have := hf _ _ _ g3
      subst this
      rw [hes] at g1 g2
      exact ⟨g2, g1⟩
    have hsz : ∀ u ∈ l.map f, u.cells.size = size := by
      intro u hu
      obtain ⟨y, hy, rfl⟩ := List.mem_map.1 hu
      obtain ⟨i, hi, rfl⟩ := List.getElem_of_mem hy
      rw [← Array.length_toList]
      exact (hcells i hi).2
    have hcl := cellsOf_len hsz
    rw [List.length_map] at hcl
    have hpos := E.pos
    have hread : ∀ j q, (cellsOf (l.map f))[j]? = some q → w.cell? (ad.add j) = some q := by
      intro j q hq
      have hj : j < l.length * size := by
        rw [← hcl]
        exact (List.getElem?_eq_some_iff.1 hq).1
      have hl0 : 0 < l.length := by
        rcases Nat.eq_zero_or_pos l.length with h | h
        · rw [h] at hj; omega
        · exact h
      obtain ⟨e1, _, _⟩ := c5 hl0
      cases e1
      have e2 : (⟨b, off, none⟩ : Addr).add j = ⟨b, off + j, none⟩ := by unfold Addr.add; split <;> simp_all
      rw [e2]
      have hi : j / size < l.length := (Nat.div_lt_iff_lt_mul hpos).2 hj
      have hm : j % size < size := Nat.mod_lt _ hpos
      have h3 := (hcells _ hi).1 _ hm
      rw [show off + j / size * size + j % size = off + j by rw [Nat.add_assoc, Nat.div_add_mod']] at h3
      rw [h3, ← hq]
      clear h3 hq
      symm
      have := cellsOf_get hsz (j / size) (by rw [List.length_map]; exact hi) (j % size) hm
      rw [Nat.div_add_mod'] at this
      rw [this]
      simp
    obtain ⟨v', w', hr, h2, h3, h4, h5⟩ := run_append_where (ty := o.type) E (v := v) (xs := xs) (h.ok _ (.head _)) ad l.length cap (cellsOf (l.map f)) hcl hread (by
        intro q hq
        obtain ⟨u, hu, hq2⟩ := List.mem_flatMap.1 hq
        obtain ⟨y, hy, rfl⟩ := List.mem_map.1 hu
        exact h1 y q hq2) (by unfold maxLen; omega) (by rw [← Int.natCast_mul] at hroom; omega)
    refine wpList_plain hgd fun K hK' => ?_
    unfold Oper.wp execOp
    simp only [ho, resolve, invoke, builtin, Sem.run_bind, Sem.run_pure, Result.andThen_ok, List.map_toArray, List.map_cons, List.map_nil, hs, hx, hr]
    refine hK' _ _ (hK v' w' ?_)
    have ho2 : Own w' 0 e size v' (xs ++ l.map f) := by
      unfold Own
      rw [cellsOf_append, List.length_append, List.length_map]
      exact h2
    refine h.upd h3.os h3.tape h3.output h3.size (fun b hb hm => ?_) ho2 (fun b hb => ?_) (nodup_ob _)
    · exact h3.block b hb fun e => hm (by simp [aOwn, ← e])
    · have hb' : v'.ownBlock = some b := by simpa [aOwn] using hb
      rcases h4 b hb' with h6 | h6
      · exact .inl (by simpa [aOwn] using h6)
      · exact .inr ⟨h6, (ho2.lt b hb').2⟩

/-- What the call owns reads as a list. -/
theorem Own.enc {α : Type} {En : Enc α} {w : World} {B : Nat} {e : TypeId} {size bytes : Nat} {v : Value} {l : List α} {f : α → Value} {F : Nat → Prop} (h : Own w B e size v (l.map f)) (hes : En.size = size) (hR : ∀ a ∈ l, En.R F w (f a).cells.toList a) (hF : ∀ b ∈ v.ownBlock.toList, F b)
    (hb : (l.length : Int) * bytes ≤ 140737488355328) : (En.sl bytes).R F w [v] l := by
  have hsz : ∀ u ∈ l.map f, u.cells.size = size := by
    intro u hu
    obtain ⟨y, hy, rfl⟩ := List.mem_map.1 hu
    rw [← Array.length_toList, En.len (hR y hy), hes]
  have hr := h
  unfold Own at hr
  rw [List.length_map] at hr
  rcases hr.2 with ⟨h1, h2⟩ | ⟨g, cap, cur, rfl, hB, hg, hn, hc, hcs, htk⟩
  · have : l = [] := List.eq_nil_of_length_eq_zero h2
    subst this
    exact ⟨none, 0, 0, 0, by rw [h1]; rfl, Nat.le_refl _, by decide, by simp, fun _ => rfl, fun h => by simp at h, fun i hi => by simp at hi⟩
  · refine ⟨some ⟨g, 0, none⟩, g, 0, cap, rfl, hn, hc, hb, (fun h => by cases h), fun _ => ⟨rfl, (Array.getElem?_eq_some_iff.1 hg).1, hF g (by simp [Value.ownBlock])⟩, fun i hi => ⟨_, ?_, fun j hj => ?_, hR _ (List.getElem_mem hi)⟩⟩
    · rw [En.len (hR _ (List.getElem_mem hi))]
    · rw [hes] at hj ⊢
      have h3 := cellsOf_get hsz i (by rw [List.length_map]; exact hi) j hj
      rw [List.getElem_map] at h3
      rw [← h3, Nat.zero_add, ← htk]
      have hlt : i * size + j < l.length * size := by
        have : (i + 1) * size ≤ l.length * size := Nat.mul_le_mul_right _ hi
        rw [Nat.add_mul] at this; omega
      rw [List.getElem?_take, if_pos hlt]
      simp [World.cell?, hg]
theorem Enc.toSl {α : Type} {En : Enc α} {bytes : Nat} {F : Nat → Prop} {w : World} {v : Value} {l : List α} (h : (En.sl bytes).R F w [v] l) : Sl w En.size (En.R F w) v l := by
  obtain ⟨ao, b, off, cap, hu, c1, c2, c3, c4, c5, c6⟩ := h
  simp only [List.cons.injEq, and_true] at hu
  exact ⟨ao, b, off, cap, hu, c1, c2, fun h => ⟨(c5 h).1, (c5 h).2.1⟩, c6⟩
theorem St.fpOwn {w0 w : World} {μ : List Asrt} {e : TypeId} {size : Nat} {v : Value} {xs : List Value} (h : St w0 w (aOwn e size v xs :: μ)) : ∀ b ∈ v.ownBlock.toList, w0.heap.size ≤ b ∧ b < w.heap.size := h.lo _ (.head _)

/-- A slice of one-cell elements that reads as a list: its cells. -/
theorem Enc.sl1 {α : Type} {En : Enc α} {bytes : Nat} {F : Nat → Prop} {w : World} {v : Value} {l : List α} (f : α → Value) (hf : ∀ w cs a, En.R F w cs a → cs = [f a]) (hs : En.size = 1) (d : α) (h : (En.sl bytes).R F w [v] l) :
    ∃ (ao : Option Addr) (b off cap : Nat), v = .slice ao l.length cap ∧ (l.length : Int) * bytes ≤ 140737488355328 ∧ (0 < l.length → ao = some ⟨b, off, none⟩ ∧ b < w.heap.size ∧ F b) ∧ ∀ i, i < l.length → w.cell? ⟨b, off + i, none⟩ = some (f (l.getD i d)) ∧ En.R F w [f (l.getD i d)] (l.getD i d) := by
  obtain ⟨ao, b, off, cap, hu, c1, c2, c3, c4, c5, c6⟩ := h
  simp only [List.cons.injEq, and_true] at hu
  refine ⟨ao, b, off, cap, hu, c3, c5, fun i hi => ?_⟩
  obtain ⟨cs, g1, g2, g3⟩ := c6 i hi
  have e := hf _ _ _ g3
  subst e
  have := g2 0 (by omega)
  rw [hs, Nat.mul_one, Nat.add_zero] at this
  have e2 : l.getD i d = l[i] := by simp [List.getD, List.getElem?_eq_getElem hi]
  rw [e2]
  exact ⟨by rw [this]; rfl, g3⟩
/-- A slice whose elements are n plain cells each. -/
theorem Enc.slN {α : Type} {En : Enc α} {bytes : Nat} {F : Nat → Prop} {w : World} {v : Value} {l : List α} (d : α) (h : (En.sl bytes).R F w [v] l) :
    ∃ (ao : Option Addr) (b off cap : Nat), v = .slice ao l.length cap ∧ (l.length : Int) * bytes ≤ 140737488355328 ∧ (0 < l.length → ao = some ⟨b, off, none⟩ ∧ b < w.heap.size ∧ F b) ∧ ∀ i, i < l.length → ∃ cs, cs.length = En.size ∧ (∀ j, j < En.size → w.cell? ⟨b, off + i * En.size + j, none⟩ = cs[j]?) ∧ En.R F w cs (l.getD i d) := by
  obtain ⟨ao, b, off, cap, hu, c1, c2, c3, c4, c5, c6⟩ := h
  simp only [List.cons.injEq, and_true] at hu
  refine ⟨ao, b, off, cap, hu, c3, c5, fun i hi => ?_⟩
  have e2 : l.getD i d = l[i] := by simp [List.getD, List.getElem?_eq_getElem hi]
  rw [e2]
  exact c6 i hi
end Go.Proofs.YtlgabpcddldelaaDoor
