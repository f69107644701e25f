/-
  What a call owns, as a list of assertions apart from each other. (A helper text; it claims nothing of the program.)
-/
import Derived.Test.YtlgabpcddldelaaDoorOwnSet
import Derived.Test.YtlgabpcddldelaaDoorRead
namespace Go.Proofs.YtlgabpcddldelaaDoor
set_option linter.unusedVariables false
open Go.ChangeShapes Go.WideShapes Go.ChangeAt Go.RowKit

/-- An assertion on some blocks of memory. -/
structure Asrt where
  fp : List Nat
  ok : World → Prop
  loc : ∀ w w' : World, (∀ b ∈ fp, w'.heap[b]? = w.heap[b]?) → ok w → ok w'

/-- Since w0 the call has made what μ says; all else is as it was. -/
structure St (w0 w : World) (μ : List Asrt) : Prop where
  bel : Below w0.heap.size w0 w
  ok : ∀ A ∈ μ, A.ok w
  lo : ∀ A ∈ μ, ∀ b ∈ A.fp, w0.heap.size ≤ b ∧ b < w.heap.size
  sep : (μ.flatMap (·.fp)).Nodup

theorem Own.loc {w w' : World} {B : Nat} {e : TypeId} {size : Nat} {v : Value} {xs : List Value} (h : Own w B e size v xs) (hb : ∀ b ∈ v.ownBlock.toList, w'.heap[b]? = w.heap[b]?) : Own w' B e size v xs := by
  refine ⟨h.1, ?_⟩
  rcases h.2 with h2 | ⟨g, cap, cur, rfl, hB, hg, hn, hc, hcs, htk⟩
  · exact .inl h2
  · exact .inr ⟨g, cap, cur, rfl, hB, by rw [hb g (by simp [Value.ownBlock])]; exact hg, hn, hc, hcs, htk⟩

/-- A slice of its own. -/
def aOwn (e : TypeId) (size : Nat) (v : Value) (xs : List Value) : Asrt := ⟨v.ownBlock.toList, fun w => Own w 0 e size v xs, fun _ _ hb h => h.loc hb⟩
/-- A block of its own. -/
def aCel (g : Nat) (T : TypeId) (cs : Array Value) : Asrt := ⟨[g], fun w => w.heap[g]? = some (.cells cs T (0, 0)), fun _ _ hb h => by rw [hb g (by simp)]; exact h⟩

theorem Own.base {w : World} {B B' : Nat} {e : TypeId} {size : Nat} {v : Value} {xs : List Value} (h : Own w B e size v xs) (hb : ∀ b ∈ v.ownBlock.toList, B' ≤ b) : Own w B' e size v xs := by
  refine ⟨h.1, ?_⟩
  rcases h.2 with h2 | ⟨g, cap, cur, rfl, hB, hg, hn, hc, hcs, htk⟩
  · exact .inl h2
  · exact .inr ⟨g, cap, cur, rfl, hb g (by simp [Value.ownBlock]), hg, hn, hc, hcs, htk⟩

section
variable {w0 w w' : World} {μ ν : List Asrt} {A A' B C D : Asrt}
theorem St.init (w : World) : St w w [] := ⟨Below.refl _ _, fun _ h => (by cases h), fun _ h => (by cases h), (by simp)⟩
theorem St.call (h : St w0 w μ) (hb : Below w.heap.size w w') : St w0 w' μ := by
  refine ⟨h.bel.trans (hb.mono h.bel.size), fun A hA => A.loc w w' (fun b hb1 => hb.block b (h.lo A hA b hb1).2) (h.ok A hA), fun A hA b hb1 => ⟨(h.lo A hA b hb1).1, Nat.lt_of_lt_of_le (h.lo A hA b hb1).2 hb.size⟩, h.sep⟩
theorem St.drew (h : St w0 w μ) : St w0 w.drew μ := ⟨h.bel.drew, fun A hA => A.loc w _ (fun _ _ => rfl) (h.ok A hA), h.lo, h.sep⟩
theorem St.drewN (h : St w0 w μ) (n : Nat) : St w0 (w.drewN n) μ := ⟨below_drewN h.bel n, fun A hA => A.loc w _ (fun _ _ => rfl) (h.ok A hA), h.lo, h.sep⟩
theorem St.skip (h : St w0 w μ) (o : Obj) : St w0 (w.alloc o) μ := h.call ((Below.refl _ _).alloc (Nat.le_refl _) _)
theorem St.perm (h : St w0 w μ) (hp : μ.Perm ν) : St w0 w ν :=
  ⟨h.bel, fun A hA => h.ok A (hp.mem_iff.2 hA), fun A hA => h.lo A (hp.mem_iff.2 hA), ((hp.flatMap_right _).nodup_iff).1 h.sep⟩
theorem St.get2 (h : St w0 w (A :: B :: μ)) : St w0 w (B :: A :: μ) := h.perm (List.Perm.swap _ _ _)
theorem St.get3 (h : St w0 w (A :: B :: C :: μ)) : St w0 w (C :: A :: B :: μ) := h.perm (((List.Perm.swap _ _ _).cons _).trans (List.Perm.swap _ _ _))
theorem St.get4 (h : St w0 w (A :: B :: C :: D :: μ)) : St w0 w (D :: A :: B :: C :: μ) := h.perm (((((List.Perm.swap _ _ _).cons _).cons _).trans ((List.Perm.swap _ _ _).cons _)).trans (List.Perm.swap _ _ _))
theorem St.drop (h : St w0 w (A :: μ)) : St w0 w μ :=
  ⟨h.bel, fun B hB => h.ok B (.tail _ hB), fun B hB => h.lo B (.tail _ hB), by have := h.sep; simp only [List.flatMap_cons] at this; exact (List.nodup_append.1 this).2.1⟩
/-- One assertion gives way to another one: the world turns only where the first one looks, and behind the end. -/
theorem St.upd (h : St w0 w (A :: μ)) (hos : w'.os = w.os) (htape : w'.tape = w.tape) (hout : w'.output = w.output) (hsz : w.heap.size ≤ w'.heap.size)
    (hblk : ∀ b, b < w.heap.size → b ∉ A.fp → w'.heap[b]? = w.heap[b]?) (hok : A'.ok w') (hfp : ∀ b ∈ A'.fp, b ∈ A.fp ∨ (w.heap.size ≤ b ∧ b < w'.heap.size)) (hnd : A'.fp.Nodup) : St w0 w' (A' :: μ) := by
  have hsep := h.sep
  simp only [List.flatMap_cons, List.nodup_append] at hsep
  obtain ⟨hs1, hs2, hs3⟩ := hsep
  have hlo := h.lo A (.head _)
  refine ⟨⟨hos.trans h.bel.os, htape.trans h.bel.tape, hout.trans h.bel.output, Nat.le_trans h.bel.size hsz, fun k hk => ?_⟩, fun B hB => ?_, fun B hB b hb => ?_, ?_⟩
  · rw [hblk k (Nat.lt_of_lt_of_le hk h.bel.size) (fun hm => by have := (hlo k hm).1; omega), h.bel.block k hk]
  · rcases List.mem_cons.1 hB with rfl | hB
    · exact hok
    · refine B.loc w w' (fun b hb => ?_) (h.ok B (.tail _ hB))
      refine hblk b (h.lo B (.tail _ hB) b hb).2 (fun hm => ?_)
      exact hs3 b hm b (List.mem_flatMap.2 ⟨B, hB, hb⟩) rfl
  · rcases List.mem_cons.1 hB with rfl | hB
    · rcases hfp b hb with h1 | h1
      · exact ⟨(hlo b h1).1, Nat.lt_of_lt_of_le (hlo b h1).2 hsz⟩
      · exact ⟨Nat.le_trans h.bel.size h1.1, h1.2⟩
    · exact ⟨(h.lo B (.tail _ hB) b hb).1, Nat.lt_of_lt_of_le (h.lo B (.tail _ hB) b hb).2 hsz⟩
  · simp only [List.flatMap_cons, List.nodup_append]
    refine ⟨hnd, hs2, fun b hb c hc e => ?_⟩
    subst e
    rcases hfp b hb with h1 | h1
    · exact hs3 b h1 b hc rfl
    · obtain ⟨B, hB, hb2⟩ := List.mem_flatMap.1 hc
      have := (h.lo B (.tail _ hB) b hb2).2
      omega
/-- A call's own result is the caller's now. -/
theorem St.push (h : St w0 w μ) (hb : Below w.heap.size w w') (hok : A.ok w') (hfp : ∀ b ∈ A.fp, w.heap.size ≤ b ∧ b < w'.heap.size) (hnd : A.fp.Nodup) : St w0 w' (A :: μ) := by
  have h2 := h.call hb
  refine ⟨h2.bel, fun B hB => ?_, fun B hB b hb1 => ?_, ?_⟩
  · rcases List.mem_cons.1 hB with rfl | hB
    · exact hok
    · exact h2.ok B hB
  · rcases List.mem_cons.1 hB with rfl | hB
    · exact ⟨Nat.le_trans h.bel.size (hfp b hb1).1, (hfp b hb1).2⟩
    · exact h2.lo B hB b hb1
  · simp only [List.flatMap_cons, List.nodup_append]
    refine ⟨hnd, h.sep, fun b hb1 c hc e => ?_⟩
    subst e
    obtain ⟨B, hB, hb2⟩ := List.mem_flatMap.1 hc
    have := (h.lo B hB b hb2).2
    have := (hfp b hb1).1
    omega
theorem St.alloc (h : St w0 w μ) (cs : Array Value) (T : TypeId) : St w0 (w.alloc (.cells cs T)) (aCel w.heap.size T cs :: μ) :=
  h.push ((Below.refl _ _).alloc (Nat.le_refl _) _) (heap_alloc_new _ _) (fun b hb => by simp [aCel] at hb; subst hb; simp) (by simp [aCel])
end

section
variable {w0 w w' : World} {μ : List Asrt} {e : TypeId} {size : Nat} {v v' : Value} {xs ys : List Value}
theorem nodup_ob (v : Value) : v.ownBlock.toList.Nodup := by cases v.ownBlock <;> simp
theorem Own.fp {B : Nat} (h : Own w B e size v xs) : ∀ b ∈ v.ownBlock.toList, B ≤ b ∧ b < w.heap.size := fun b hb => h.lt b (by simpa using hb)
theorem Own.zero {B : Nat} (h : Own w B e size v xs) : Own w 0 e size v xs := h.base fun _ _ => Nat.zero_le _
theorem Own.addr {B : Nat} {ao : Option Addr} {n cap : Nat} (h : Own w B e size (.slice ao n cap) xs) (hp : 0 < xs.length) : ∃ g, ao = some ⟨g, 0, none⟩ := by
  rcases h.shape with ⟨_, h2⟩ | ⟨g, c, h1, _⟩
  · subst h2; simp at hp
  · simp only [Value.slice.injEq] at h1; exact ⟨g, h1.1⟩
/-- A call's own slice. -/
theorem St.pushOwn (h : St w0 w μ) (hb : Below w.heap.size w w') (ho : Own w' w.heap.size e size v xs) : St w0 w' (aOwn e size v xs :: μ) :=
  h.push hb ho.zero (fun b hb => ho.fp b hb) (nodup_ob v)
theorem St.nilOwn (h : St w0 w μ) (e : TypeId) (size : Nat) : St w0 w (aOwn e size (.slice none 0 0) [] :: μ) :=
  h.push (Below.refl _ _) (Own.nil _ _ _ _) (fun b hb => by simp [aOwn, Value.ownBlock] at hb) (by simp [aOwn, Value.ownBlock])
theorem St.own (h : St w0 w (aOwn e size v xs :: μ)) : Own w w0.heap.size e size v xs := (h.ok _ (.head _)).base fun b hb => (h.lo _ (.head _) b hb).1
/-- Behind an append. -/
theorem St.grown (h : St w0 w (aOwn e size v xs :: μ)) (hg : w.grownBy w' v.ownBlock) (ho : Own w' w0.heap.size e size v' ys) (hn : ∀ k, v'.ownBlock = some k → v.ownBlock = some k ∨ w.heap.size ≤ k) : St w0 w' (aOwn e size v' ys :: μ) := by
  refine h.upd hg.os hg.tape hg.output hg.size (fun b hb hm => ?_) ho.zero (fun b hb => ?_) (nodup_ob v')
  · exact hg.block b hb fun e => hm (by simp [aOwn, ← e])
  · have hb' : v'.ownBlock = some b := by simpa [aOwn] using hb
    rcases hn b hb' with h1 | h1
    · exact .inl (by simpa [aOwn] using h1)
    · exact .inr ⟨h1, (ho.lt b hb').2⟩
theorem St.setOwn {α : Type} {f : α → Value} (hf : ∀ a, (f a).cells = #[f a]) {g n cap : Nat} {l : List α} (h : St w0 w (aOwn e 1 (.slice (some ⟨g, 0, none⟩) n cap) (l.map f) :: μ)) (q : Nat) (a : α) :
    St w0 (w.setCell ⟨g, q, none⟩ (f a)) (aOwn e 1 (.slice (some ⟨g, 0, none⟩) n cap) ((l.set q a).map f) :: μ) := by
  refine h.upd rfl rfl rfl (by simp) (fun b hb hm => ?_) (Own.set hf (h.ok _ (.head _)) q a) (fun b hb => .inl hb) (by simp [aOwn, Value.ownBlock])
  exact heap_setCell_other _ _ _ _ (fun e => hm (by simp [aOwn, Value.ownBlock, e]))
theorem St.cellOwn {α : Type} {f : α → Value} (hf : ∀ a, (f a).cells = #[f a]) {g n cap : Nat} {l : List α} (h : St w0 w (aOwn e 1 (.slice (some ⟨g, 0, none⟩) n cap) (l.map f) :: μ)) (i : Nat) (hi : i < l.length) (d : α) :
    w.cell? ⟨g, i, none⟩ = some (f (l.getD i d)) ∧ w.frozen? ⟨g, i, none⟩ = false := by
  have := Own.cellAt hf (h.ok _ (.head _)) i hi d
  exact ⟨this.1, this.2.1⟩
end

/-- Where an append puts its row: where it was, or behind the end. -/
theorem run_append_where {P : Program} {w : World} {t ty e : TypeId} {size bytes : Nat} (E : ET P t e size bytes) {v : Value} {xs : List Value} (hown : Own w 0 e size v xs)
    (a : Addr) (m c : Nat) (news : List Value) (hl : news.length = m * size) (hnews : ∀ j u, news[j]? = some u → w.cell? (a.add j) = some u) (h1 : ∀ u ∈ news, u.oneCell' = true)
    (h63 : xs.length + m ≤ maxLen) (hbytes : (xs.length + m) * bytes ≤ 140737488355328) :
    ∃ v' w', (Builtin.append_ #[t, t] ty #[v, .slice (some a) m c]).run P w = .ok v' w' ∧ w'.ownsRow 0 e size v' (xs.length + m) (cellsOf xs ++ news) ∧ w.grownBy w' v.ownBlock ∧ (∀ k, v'.ownBlock = some k → v.ownBlock = some k ∨ w.heap.size ≤ k) ∧ (0 < m → ∃ g cap, v' = .slice (some ⟨g, 0, none⟩) (xs.length + m) cap) := by
  obtain ⟨ht, ⟨i, z, hi, hz, hsize, hby, hzs⟩, hp⟩ := E
  obtain ⟨v', w', hr, h2, h3, h4⟩ := run_append_own (P := P) w 0 t ty e i z size bytes ht hi hz hsize hby hzs hp v xs.length (cellsOf xs) hown a m c news hl hnews h1 h63 hbytes (Nat.zero_le _)
  refine ⟨v', w', hr, h2, h3, ?_, ?_⟩
  · unfold maxLen at h63
    subst hsize hby
    rcases hown.2 with ⟨rfl, hn⟩ | ⟨g, cap, cur, rfl, hbg, hg, hnc, hcm, hcs, htake⟩
    · by_cases hm : m = 0
      · subst hm
        have := h4.2 ⟨rfl, rfl⟩
        subst this
        intro k hk; cases hk
      · have hr2 := run_append_nil (P := P) w t ty e i z ht hi hz a m c news hl hnews (by omega) (by omega) (by rw [hn] at hbytes; simp only [Nat.zero_add] at hbytes; omega)
        rw [hr2] at hr
        cases hr
        intro k hk
        cases hk
        exact .inr (Nat.le_refl _)
    · by_cases hroom : xs.length + m ≤ cap
      · have hfit : xs.length * i.size + news.length ≤ cur.size := by rw [hl, hcs, ← Nat.add_mul]; exact Nat.mul_le_mul_right _ hroom
        have hr2 := run_append_room (P := P) w t ty e i ht hi g xs.length cap cur hg a m c news hl hnews h1 hroom hfit
        rw [hr2] at hr
        cases hr
        intro k hk
        exact .inl hk
      · have holds : ∀ j u, (cellsOf xs)[j]? = some u → w.cell? ((⟨g, 0, none⟩ : Addr).add j) = some u := World.ownsRow.cells (g := g) hown rfl
        have hr2 := run_append_grow (P := P) w t ty e i z ht hi hz ⟨g, 0, none⟩ xs.length cap (cellsOf xs) hown.1 holds a m c news hl hnews (by omega) (by omega) (growslice_fits (by omega) hbytes)
        rw [hr2] at hr
        cases hr
        intro k hk
        cases hk
        exact .inr (Nat.le_refl _)
  · intro hm
    rcases h2.2 with ⟨h5, h6⟩ | ⟨g, cap, cur, h5, _⟩
    · omega
    · exact ⟨g, cap, h5⟩

theorem cellsOf_len {size : Nat} {us : List Value} (h : ∀ u ∈ us, u.cells.size = size) : (cellsOf us).length = us.length * size := by
  induction us with
  | nil => simp [cellsOf]
  | cons u us ih =>
    have h1 := h u (.head _)
    have h2 := ih fun x hx => h x (.tail _ hx)
    simp only [cellsOf, List.flatMap_cons, List.length_append, Array.length_toList, List.length_cons] at h2 ⊢
    rw [h1, h2, Nat.add_mul]; omega

theorem cellsOf_get {size : Nat} {us : List Value} (h : ∀ u ∈ us, u.cells.size = size) (i : Nat) (hi : i < us.length) (j : Nat) (hj : j < size) : (cellsOf us)[i * size + j]? = (us[i].cells.toList)[j]? := by
  induction us generalizing i with
  | nil => simp at hi
  | cons u us ih =>
    have h1 := h u (.head _)
    simp only [cellsOf, List.flatMap_cons]
    cases i with
    | zero =>
      rw [Nat.zero_mul, Nat.zero_add, List.getElem?_append_left (by rw [Array.length_toList]; omega)]
      rfl
    | succ i =>
      rw [List.getElem?_append_right (by rw [Array.length_toList, h1, Nat.add_mul]; omega), Array.length_toList, h1, show (i + 1) * size + j - size = i * size + j by rw [Nat.add_mul]; omega]
      exact ih (fun x hx => h x (.tail _ hx)) i (by simpa using hi)

/-- append(s, us...): at least one element; at the operation. -/
theorem St.wpApp {P : Program} {w0 w : World} {μ : List Asrt} {t e : TypeId} {size bytes : Nat} (E : ET P t e size bytes) {o : Oper} {a : Act} {K : Act → World → Prop} {Q : Exit → Act → World → Prop}
    (s x : Operand) (ho : o.op = .call { callee := .builtin .append, args := #[s, x], argTypes := #[t, t] }) {v : Value} {xs : List Value} (hs : a.eval s = v)
    (h : St w0 w (aOwn e size v xs :: μ)) (us : List Value) (ad : Addr) (m c : Nat) (hx : a.eval x = .slice (some ad) m c) (hm : m = us.length)
    (hu : ∀ j q, (cellsOf us)[j]? = some q → w.cell? (ad.add j) = some q) (hsz : ∀ u ∈ us, u.cells.size = size) (h1 : ∀ q ∈ cellsOf us, q.oneCell' = true) (hpos : 0 < m)
    (hlen : xs.length + m ≤ maxLen) (hroom : (xs.length + m) * bytes ≤ 140737488355328)
    (hK : ∀ g' n' cap w', St w0 w' (aOwn e size (.slice (some ⟨g', 0, none⟩) n' cap) (xs ++ us) :: μ) → K (a.put o.dst (.slice (some ⟨g', 0, none⟩) n' cap)) w') : o.wp P a w K Q := by
  subst hm
  obtain ⟨v', w', hr, h2, h3, h4, h5⟩ := run_append_where (ty := o.type) E (v := v) (xs := xs) (h.ok _ (.head _)) ad us.length c (cellsOf us) (cellsOf_len hsz) hu h1 hlen hroom
  obtain ⟨g, cap, rfl⟩ := h5 hpos
  unfold Oper.wp execOp
  simp only [ho, resolve, invoke, builtin, Sem.run_bind, Sem.run_pure, Result.andThen_ok, List.map_toArray, List.map_cons, List.map_nil, hs, hx, hr]
  refine hK g _ cap w' ?_
  have ho2 : Own w' 0 e size (.slice (some ⟨g, 0, none⟩) (xs.length + us.length) cap) (xs ++ us) := by
    unfold Own
    rw [cellsOf_append, List.length_append]
    exact h2
  refine h.upd h3.os h3.tape h3.output h3.size (fun b hb hm => ?_) ho2 (fun b hb => ?_) (by simp [aOwn, Value.ownBlock])
  · exact h3.block b hb fun e => hm (by simp [aOwn, ← e])
  · have hb' : (Value.slice (some ⟨g, 0, none⟩) (xs.length + us.length) cap).ownBlock = some b := by simpa [aOwn] using hb
    rcases h4 b hb' with h6 | h6
    · exact .inl (by simpa [aOwn] using h6)
    · exact .inr ⟨h6, (ho2.lt b hb').2⟩

/-- append(s, us...): at least one element. -/
theorem St.app {P : Program} {w0 w : World} {μ : List Asrt} {t e : TypeId} {size bytes : Nat} (E : ET P t e size bytes) {ops : Array Oper} {rest : List Oper} {o : Oper} {a : Act} {Q : Exit → Act → World → Prop}
    (hgd : o.guard = none) (s x : Operand) (ho : o.op = .call { callee := .builtin .append, args := #[s, x], argTypes := #[t, t] }) {v : Value} {xs : List Value} (hs : a.eval s = v)
    (h : St w0 w (aOwn e size v xs :: μ)) (us : List Value) (ad : Addr) (m c : Nat) (hx : a.eval x = .slice (some ad) m c) (hm : m = us.length)
    (hu : ∀ j q, (cellsOf us)[j]? = some q → w.cell? (ad.add j) = some q) (hsz : ∀ u ∈ us, u.cells.size = size) (h1 : ∀ q ∈ cellsOf us, q.oneCell' = true) (hpos : 0 < m)
    (hlen : xs.length + m ≤ maxLen) (hroom : (xs.length + m) * bytes ≤ 140737488355328)
    (hK : ∀ g' n' cap w', St w0 w' (aOwn e size (.slice (some ⟨g', 0, none⟩) n' cap) (xs ++ us) :: μ) → wpList P ops Q rest (a.put o.dst (.slice (some ⟨g', 0, none⟩) n' cap)) w') : wpList P ops Q (o :: rest) a w :=
  wpList_plain hgd fun K hK' => St.wpApp E s x ho hs h us ad m c hx hm hu hsz h1 hpos hlen hroom fun g' n' cap w' h2 => hK' _ _ (hK g' n' cap w' h2)

/-- append(s, u). -/
theorem St.app1 {P : Program} {w0 w : World} {μ : List Asrt} {t e : TypeId} {size bytes : Nat} (E : ET P t e size bytes) {ops : Array Oper} {rest : List Oper} {o : Oper} {a : Act} {Q : Exit → Act → World → Prop}
    (hgd : o.guard = none) (s x : Operand) (ho : o.op = .call { callee := .builtin .append, args := #[s, x], argTypes := #[t, t] }) {v : Value} {xs : List Value} (hs : a.eval s = v)
    (h : St w0 w (aOwn e size v xs :: μ)) (u : Value) (g c : Nat) (hx : a.eval x = .slice (some ⟨g, 0, none⟩) 1 c)
    (hu : ∀ j q, u.cells.toList[j]? = some q → w.cell? ⟨g, j, none⟩ = some q) (hsz : u.cells.size = size) (h1 : ∀ q ∈ u.cells.toList, q.oneCell' = true)
    (hlen : xs.length + 1 ≤ maxLen) (hroom : (xs.length + 1) * bytes ≤ 140737488355328)
    (hK : ∀ g' n' cap w', St w0 w' (aOwn e size (.slice (some ⟨g', 0, none⟩) n' cap) (xs ++ [u]) :: μ) → wpList P ops Q rest (a.put o.dst (.slice (some ⟨g', 0, none⟩) n' cap)) w') : wpList P ops Q (o :: rest) a w := by
  refine St.app E hgd s x ho hs h [u] ⟨g, 0, none⟩ 1 c hx rfl ?_ (by simpa using hsz) (by rw [oneCells]; exact h1) (by omega) hlen hroom hK
  intro j q hq
  have hadd : (⟨g, 0, none⟩ : Addr).add j = ⟨g, j, none⟩ := by unfold Addr.add; split <;> simp_all
  rw [hadd]
  rw [oneCells] at hq
  exact hu j q hq

/-- append(s, u), u laid into a new block just before. -/
theorem St.app1n {P : Program} {w0 W : World} {μ : List Asrt} {t e : TypeId} {size bytes : Nat} (E : ET P t e size bytes) {ops : Array Oper} {rest : List Oper} {o : Oper} {a : Act} {Q : Exit → Act → World → Prop} {cs : Array Value} {T : TypeId}
    (hgd : o.guard = none) (s x : Operand) (ho : o.op = .call { callee := .builtin .append, args := #[s, x], argTypes := #[t, t] }) {v : Value} {xs : List Value} (hs : a.eval s = v)
    (h : St w0 W (aOwn e size v xs :: μ)) (u : Value) (hcs : cs = u.cells) (g c : Nat) (hx : a.eval x = .slice (some ⟨g, 0, none⟩) 1 c) (hg : g = W.heap.size)
    (hsz : u.cells.size = size) (h1 : ∀ q ∈ u.cells.toList, q.oneCell' = true) (hlen : xs.length + 1 ≤ maxLen) (hroom : (xs.length + 1) * bytes ≤ 140737488355328)
    (hK : ∀ g' n' cap w', St w0 w' (aOwn e size (.slice (some ⟨g', 0, none⟩) n' cap) (xs ++ [u]) :: μ) → wpList P ops Q rest (a.put o.dst (.slice (some ⟨g', 0, none⟩) n' cap)) w') : wpList P ops Q (o :: rest) a (W.alloc (.cells cs T)) := by
  subst hg hcs
  exact St.app1 E hgd s x ho hs (h.skip _) u _ c hx (fun j q hq => cells_lit _ _ j q hq) hsz h1 hlen hroom hK

/-- The same at a step of a region that draws its order. -/
theorem St.step1n {P : Program} {w0 W : World} {μ : List Asrt} {t e : TypeId} {size bytes : Nat} (E : ET P t e size bytes) {ops : Array Oper} {o : Oper} {a : Act} {K : Act → World → Prop} {Q : Exit → Act → World → Prop} {cs : Array Value} {T : TypeId} {EE : Prop}
    (hgd : o.guard = none) (s x : Operand) (ho : o.op = .call { callee := .builtin .append, args := #[s, x], argTypes := #[t, t] }) {v : Value} {xs : List Value} (hs : a.eval s = v)
    (h : St w0 W (aOwn e size v xs :: μ)) (u : Value) (hcs : cs = u.cells) (g c : Nat) (hx : a.eval x = .slice (some ⟨g, 0, none⟩) 1 c) (hg : g = W.heap.size)
    (hsz : u.cells.size = size) (h1 : ∀ q ∈ u.cells.toList, q.oneCell' = true) (hlen : xs.length + 1 ≤ maxLen) (hroom : (xs.length + 1) * bytes ≤ 140737488355328)
    (hK : ∀ g' n' cap w', St w0 w' (aOwn e size (.slice (some ⟨g', 0, none⟩) n' cap) (xs ++ [u]) :: μ) → K (a.put o.dst (.slice (some ⟨g', 0, none⟩) n' cap)) w') :
    if Region.wanted o (yielded ops a.tmps) = true then Oper.wp P o a (W.alloc (.cells cs T)) K Q else EE := by
  subst hg hcs
  have hw : Region.wanted o (yielded ops a.tmps) = true := by simp [Region.wanted, hgd]
  rw [if_pos hw]
  refine St.wpApp E s x ho hs (h.skip _) [u] ⟨W.heap.size, 0, none⟩ 1 c hx rfl (fun j q hq => ?_) (by simpa using hsz) (by rw [oneCells]; exact h1) (by omega) hlen hroom hK
  have hadd : (⟨W.heap.size, 0, none⟩ : Addr).add j = ⟨W.heap.size, j, none⟩ := by unfold Addr.add; split <;> simp_all
  rw [hadd]
  rw [oneCells] at hq
  exact cells_lit _ _ j q hq

theorem St.celAt {w0 w : World} {μ : List Asrt} {g : Nat} {T : TypeId} {cs : Array Value} (h : St w0 w (aCel g T cs :: μ)) {i : Nat} {v : Value} (hi : cs[i]? = some v) : w.cell? ⟨g, i, none⟩ = some v := by
  have := h.ok _ (.head _)
  simp only [aCel] at this
  simp [World.cell?, this, hi]
theorem St.celFree {w0 w : World} {μ : List Asrt} {g : Nat} {T : TypeId} {cs : Array Value} (h : St w0 w (aCel g T cs :: μ)) (i : Nat) : w.frozen? ⟨g, i, none⟩ = false :=
  frozen_of_row _ _ _ _ _ (h.ok _ (.head _))
theorem St.setCel {w0 w : World} {μ : List Asrt} {g : Nat} {T : TypeId} {cs : Array Value} (h : St w0 w (aCel g T cs :: μ)) (i : Nat) (v : Value) : St w0 (w.setCell ⟨g, i, none⟩ v) (aCel g T (cs.setIfInBounds i v) :: μ) := by
  refine h.upd rfl rfl rfl (by simp) (fun b hb hm => ?_) (heap_setCell_same _ _ _ _ _ _ (h.ok _ (.head _))) (fun b hb => .inl hb) (by simp [aCel])
  exact heap_setCell_other _ _ _ _ (fun e => hm (by simp [aCel, e]))
end Go.Proofs.YtlgabpcddldelaaDoor
