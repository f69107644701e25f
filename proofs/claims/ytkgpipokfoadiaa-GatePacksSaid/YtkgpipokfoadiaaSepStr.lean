/-
  append(b, s...) of a text; append of one element at a step of a region that draws its order. (A helper text; it claims nothing of the program.)
-/
import Derived.Test.YtkgpipokfoadiaaEncOps
import Derived.Lib.AppendStr
import Derived.Deep.RegionLaw
namespace Go.Proofs.Ytkgpipokfoadiaa
set_option linter.unusedVariables false
open Go.ChangeShapes Go.WideShapes Go.ChangeAt Go.RowKit

theorem strCells_eq (s : ByteArray) : Lib.strCells s = (strI s).map (Value.int .u8) := by simp [strI, Lib.strCells, Function.comp_def]

theorem run_append_str_where {P : Program} {w : World} {t u ty e : TypeId} (E : ET P t e 1 1) (hz0 : (P.info? e).map (fun i => i.zero) = some (some (.int .u8 0))) (hu : P.underlying u = some .string) {v : Value} {xs : List Int} (hown : Own w 0 e 1 v (xs.map (Value.int .u8)))
    (s : ByteArray) (hbytes : xs.length + s.size ≤ 140737488355328) :
    ∃ v' w', (Builtin.append_ #[t, u] ty #[v, .string s]).run P w = .ok v' w' ∧ Own w' 0 e 1 v' ((xs ++ strI s).map (Value.int .u8)) ∧ w.grownBy w' v.ownBlock ∧ (∀ k, v'.ownBlock = some k → v.ownBlock = some k ∨ w.heap.size ≤ k) := by
  obtain ⟨ht, ⟨i, z, hi, hz, hsize, hby, hzs⟩, hp⟩ := E
  rw [hi] at hz0
  have hz1 : i.zero = some (.int .u8 0) := by simpa using hz0
  have hr0 := hown
  unfold Own at hr0
  rw [cellsOf_ints, List.length_map] at hr0
  obtain ⟨v', w', hr, h2, h3, h4⟩ := Lib.run_append_own_string (P := P) w 0 t u ty e i ht hu hi hz1 hsize hby v xs.length _ hr0 s (by unfold maxLen; omega) hbytes (Nat.zero_le _)
  have ho2 : Own w' 0 e 1 v' ((xs ++ strI s).map (Value.int .u8)) := by
    unfold Own
    rw [cellsOf_ints, List.length_map, List.length_append, strI_length, List.map_append, ← strCells_eq]
    exact h2
  refine ⟨v', w', hr, ho2, h3, ?_⟩
  rcases hr0.2 with ⟨rfl, hn⟩ | ⟨g, cap, cur, rfl, hbg, hg, hnc, hcm, hcs, htake⟩
  · by_cases hm : s.size = 0
    · have := h4.2 ⟨rfl, hm⟩
      subst this
      intro k hk; cases hk
    · have hr2 := run_append_nil_string (P := P) w t u ty e i _ ht hu hi hz1 s (by omega) (by omega) (by rw [hby]; omega)
      rw [hr2] at hr
      cases hr
      intro k hk
      cases hk
      exact .inr (Nat.le_refl _)
  · by_cases hroom : xs.length + s.size ≤ cap
    · have hr2 := Lib.run_append_room_string (P := P) w t u ty e i ht hu hi hsize g xs.length cap cur hg s hroom (by omega)
      rw [hr2] at hr
      cases hr
      intro k hk
      exact .inl hk
    · have holds : ∀ j u, (xs.map (Value.int .u8))[j]? = some u → w.cell? ((⟨g, 0, none⟩ : Addr).add j) = some u := World.ownsRow.cells (g := g) hr0 rfl
      have hr2 := Lib.run_append_grow_string (P := P) w t u ty e i _ ht hu hi hz1 ⟨g, 0, none⟩ xs.length cap _ (by rw [List.length_map, hsize, Nat.mul_one]) holds s (by omega) (by omega) (growslice_fits (by omega) (by rw [hby]; omega))
      rw [hr2] at hr
      cases hr
      intro k hk
      cases hk
      exact .inr (Nat.le_refl _)

theorem St.wpStr {P : Program} {w0 w : World} {μ : List Asrt} {t u e : TypeId} (E : ET P t e 1 1) (hz0 : (P.info? e).map (fun i => i.zero) = some (some (.int .u8 0))) (htu : P.underlying u = some .string) {o : Oper} {a : Act} {K : Act → World → Prop} {Q : Exit → Act → World → Prop}
    (s x : Operand) (ho : o.op = .call { callee := .builtin .append, args := #[s, x], argTypes := #[t, u] }) {v : Value} {xs : List Int} (hs : a.eval s = v)
    (h : St w0 w (aOwn e 1 v (xs.map (Value.int .u8)) :: μ)) (tx : ByteArray) (hx : a.eval x = .string tx) (hroom : xs.length + tx.size ≤ 140737488355328)
    (hK : ∀ v' w', St w0 w' (aOwn e 1 v' ((xs ++ strI tx).map (Value.int .u8)) :: μ) → K (a.put o.dst v') w') : o.wp P a w K Q := by
  obtain ⟨v', w', hr, ho2, h3, h4⟩ := run_append_str_where (ty := o.type) E hz0 htu (v := v) (xs := xs) (h.ok _ (.head _)) tx hroom
  unfold Oper.wp execOp
  simp only [ho, resolve, invoke, builtin, Sem.run_bind, Sem.run_pure, Result.andThen_ok, List.map_toArray, List.map_cons, List.map_nil, hs, hx, hr]
  refine hK v' w' ?_
  refine h.upd h3.os h3.tape h3.output h3.size (fun b hb hm => ?_) ho2 (fun b hb => ?_) (nodup_ob _)
  · exact h3.block b hb fun e => hm (by simp [aOwn, ← e])
  · have hb' : v'.ownBlock = some b := by simpa [aOwn] using hb
    rcases h4 b hb' with h6 | h6
    · exact .inl (by simpa [aOwn] using h6)
    · exact .inr ⟨h6, (ho2.lt b hb').2⟩
theorem St.appStr {P : Program} {w0 w : World} {μ : List Asrt} {t u e : TypeId} (E : ET P t e 1 1) (hz0 : (P.info? e).map (fun i => i.zero) = some (some (.int .u8 0))) (htu : P.underlying u = some .string) {ops : Array Oper} {rest : List Oper} {o : Oper} {a : Act} {Q : Exit → Act → World → Prop}
    (hgd : o.guard = none) (s x : Operand) (ho : o.op = .call { callee := .builtin .append, args := #[s, x], argTypes := #[t, u] }) {v : Value} {xs : List Int} (hs : a.eval s = v)
    (h : St w0 w (aOwn e 1 v (xs.map (Value.int .u8)) :: μ)) (tx : ByteArray) (hx : a.eval x = .string tx) (hroom : xs.length + tx.size ≤ 140737488355328)
    (hK : ∀ v' w', St w0 w' (aOwn e 1 v' ((xs ++ strI tx).map (Value.int .u8)) :: μ) → wpList P ops Q rest (a.put o.dst v') w') : wpList P ops Q (o :: rest) a w :=
  wpList_plain hgd fun K hK' => St.wpStr E hz0 htu s x ho hs h tx hx hroom fun v' w' h2 => hK' _ _ (hK v' w' h2)
theorem St.stepStr {P : Program} {w0 w : World} {μ : List Asrt} {t u e : TypeId} (E : ET P t e 1 1) (hz0 : (P.info? e).map (fun i => i.zero) = some (some (.int .u8 0))) (htu : P.underlying u = some .string) {ops : Array Oper} {o : Oper} {a : Act} {K : Act → World → Prop} {Q : Exit → Act → World → Prop} {EE : Prop}
    (hgd : o.guard = none) (s x : Operand) (ho : o.op = .call { callee := .builtin .append, args := #[s, x], argTypes := #[t, u] }) {v : Value} {xs : List Int} (hs : a.eval s = v)
    (h : St w0 w (aOwn e 1 v (xs.map (Value.int .u8)) :: μ)) (tx : ByteArray) (hx : a.eval x = .string tx) (hroom : xs.length + tx.size ≤ 140737488355328)
    (hK : ∀ v' w', St w0 w' (aOwn e 1 v' ((xs ++ strI tx).map (Value.int .u8)) :: μ) → K (a.put o.dst v') w') :
    if Region.wanted o (yielded ops a.tmps) = true then Oper.wp P o a w K Q else EE := by
  have hw : Region.wanted o (yielded ops a.tmps) = true := by simp [Region.wanted, hgd]
  rw [if_pos hw]
  exact St.wpStr E hz0 htu s x ho hs h tx hx hroom hK
/-- append(s, u) of a one-cell element at a step. -/
theorem St.step1 {P : Program} {w0 w : World} {μ : List Asrt} {t e : TypeId} {bytes : Nat} (E : ET P t e 1 bytes) {ops : Array Oper} {o : Oper} {a : Act} {K : Act → World → Prop} {Q : Exit → Act → World → Prop} {EE : Prop}
    (hgd : o.guard = none) (s x : Operand) (ho : o.op = .call { callee := .builtin .append, args := #[s, x], argTypes := #[t, t] }) {v : Value} {xs : List Value} (hs : a.eval s = v)
    (h : St w0 w (aOwn e 1 v xs :: μ)) (u : Value) (g c : Nat) (hx : a.eval x = .slice (some ⟨g, 0, none⟩) 1 c) (hu : w.cell? ⟨g, 0, none⟩ = some u) (hc : u.cells = #[u]) (h1 : u.oneCell' = true)
    (hlen : xs.length + 1 ≤ maxLen) (hroom : (xs.length + 1) * bytes ≤ 140737488355328)
    (hK : ∀ g' n' cap w', St w0 w' (aOwn e 1 (.slice (some ⟨g', 0, none⟩) n' cap) (xs ++ [u]) :: μ) → K (a.put o.dst (.slice (some ⟨g', 0, none⟩) n' cap)) w') :
    if Region.wanted o (yielded ops a.tmps) = true then Oper.wp P o a w K Q else EE := by
  have hw : Region.wanted o (yielded ops a.tmps) = true := by simp [Region.wanted, hgd]
  rw [if_pos hw]
  refine St.wpApp E s x ho hs h [u] ⟨g, 0, none⟩ 1 c hx rfl (fun j q hq => ?_) (by simp [hc]) (by rw [oneCells, hc]; simp [h1]) (by omega) hlen hroom hK
  rw [oneCells, hc] at hq
  match j, hq with
  | 0, hq => simp at hq; subst hq; simpa [Addr.add] using hu
  | j + 1, hq => simp at hq
theorem u8z : (Try.prog.info? 5).map (fun i => i.zero) = some (some (.int .u8 0)) := by kernel_rfl
end Go.Proofs.Ytkgpipokfoadiaa
