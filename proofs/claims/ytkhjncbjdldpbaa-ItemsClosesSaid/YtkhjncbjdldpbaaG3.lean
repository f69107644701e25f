/-
  Parts of the proof of ItemsCloses, put together: MapMore ClsShare SepAt4 ItPut ItSort Table LlChk Cl ClRight ClTodo ClIn Shrink PairSet ClW ItSort2 ItP ItList ItQ Que ItBody3 ItRef ItBody FcOf FcBegin MapStep. (Helper texts.)
-/
import Derived.Test.YtkhjncbjdldpbaaG1
import Derived.Test.YtkhjncbjdldpbaaG2
import Derived.WideKeyEntry
import Derived.Maps.OwnOps
import Derived.Deep.RegionHeld
import Derived.Shelf.SlSortCmp.WholeK
import Derived.Handy
import Derived.Deep.QuietTactic
import Derived.Deep.RegionLaw
import Derived.Laws.Bits64b
import Derived.Deep.AppendSrc
import Derived.Laws.BitsAllLaws

/-
  m[k]++ of a map that the call made, at the steps of a region that draws its order; structs of two numbers as keys. (A helper text; it claims nothing of the program.)
-/
namespace Go.Proofs.Ytkhjncbjdldpbaa
set_option linter.unusedVariables false
open Go.ChangeShapes Go.WideShapes Go.ChangeAt Go.RowKit Go.ChangeMaps

section
variable {P : Program} {k e t : TypeId} {w : World} {b n : Nat} {D : DataW Unit}
theorem entry_own (h : w.ownsMap P k (plainElem P e) b n D) (KL : WideMaps.KeyLaw P k) (ht : P.underlying t = some (.map k e)) (he : P.underlying e = some (.int .i64)) (hz : ∀ u : World, (zeroValue e).run P u = .ok (.int .i64 0) u) (hn : n < maxLen)
    {key : Value} {kl : Lit} (hkey : keyOf P k key = some kl) :
    ∃ (v0 : Value) (st : Nat) (es1 : Array MapEntry) (clock1 : Nat) (D1 : DataW Unit), (Instr.mapEntry t (.map (some b)) key).run P w = .ok (.tuple #[v0, goInt st]) (setBlock w b (.map es1 clock1)) ∧
      (setBlock w b (.map es1 clock1)).ownsMap P k (plainElem P e) b (n + 1) D1 ∧ D1.atKey kl (.lit (.int .i64 0)) = D.atKey kl (.lit (.int .i64 0)) ∧
      ∀ (w2 : World) (val : Value) (d : DataW Unit) (ps : List MemPlace), w2.heap[b]? = some (.map es1 clock1) → plainElem P e val = some (d, ps) → ∃ w3, (Instr.entryStore t (.map (some b)) (goInt st) val).run P w2 = .ok () w3 ∧ w3.ownsMap P k (plainElem P e) b (n + 1) (D.put kl d) ∧ w2.grownBy w3 (some b) := by
  have K := Maps.Keyed.of_law KL
  have h0 := h
  have hpz : plainElem (H := Unit) P e (.int .i64 0) = some (.lit (.int .i64 0), []) := plainElem_int he (by decide)
  obtain ⟨es, clock, hb, F, hs, hD⟩ := h
  obtain ⟨v0, st, es1, clock1, hrun, hcase, hstore⟩ := WideElems.entry_then_store KL ht hz hb F hkey
  have hsame : ∀ {c1 c2 : Nat} {x1 x2 : Array MapEntry}, setBlock w b (.map x1 c1) = setBlock w b (.map x2 c2) → x1 = x2 ∧ c1 = c2 := by
    intro c1 c2 x1 x2 hh
    have h1 := congrArg (fun u : World => u.heap[b]?) hh
    simp only [heap_setBlock_same hb] at h1
    simpa using h1
  have hst : ∀ (w2 : World) (val : Value) (d : DataW Unit) (ps : List MemPlace), w2.heap[b]? = some (.map es1 clock1) → plainElem P e val = some (d, ps) → ∃ w3, (Instr.entryStore t (.map (some b)) (goInt st) val).run P w2 = .ok () w3 ∧ w3.ownsMap P k (plainElem P e) b (n + 1) (D.put kl d) ∧ w2.grownBy w3 (some b) := by
    intro w2 val d ps hw2 hval
    obtain ⟨es', clock', g1, g2⟩ := hstore w2 val hw2
    obtain ⟨w', g3, g4, g5⟩ := h0.update K ht hn hkey hval
    rw [g2] at g3
    cases g3
    refine ⟨_, g1, ?_, ⟨rfl, rfl, rfl, by simp [setBlock], fun i _ hi => heap_setBlock_other hw2 _ (fun e => hi (by rw [e]))⟩⟩
    obtain ⟨xs, ck, q1, q2⟩ := g4
    refine ⟨xs, ck, ?_, q2⟩
    rw [heap_setBlock_same hb] at q1
    rw [heap_setBlock_same hw2]
    exact q1
  rcases KL.find w hkey es.toList F.keys with ⟨h1, h2⟩ | ⟨j, e0, h1, h2, h3⟩
  · have hrunE : (Instr.mapEntry t (.map (some b)) key).run P w = .ok (.tuple #[.int .i64 0, goInt clock]) (setBlock w b (.map (es.push ⟨key, .int .i64 0, clock⟩) (clock + 1))) := by
      simp [Instr.mapEntry, run_underlying ht, MapKept.run_getObj_map hb, KL.check w false hkey, h1, hz, MapKept.run_setObj_map _ hb, Result.andThen, setBlock]
    have hrunU : (Instr.mapUpdate t (.map (some b)) key (.int .i64 0)).run P w = .ok () (setBlock w b (.map (es.push ⟨key, .int .i64 0, clock⟩) (clock + 1))) := by
      simp [Instr.mapUpdate, run_underlying ht, MapKept.run_getObj_map hb, KL.check w false hkey, h1, MapKept.run_setObj_map _ hb, Result.andThen, setBlock]
    have hrunL : (Instr.lookup t (.map (some b)) key false).run P w = .ok (.int .i64 0) w := by
      obtain ⟨c, hl, _, _⟩ := h0.lookup_int K ht he (hz w) hkey
      rw [hl]
      have : (Instr.lookup t (.map (some b)) key false).run P w = .ok (.int .i64 0) w := by
        rcases Maps.fit_look false K ht (hz w) hb F hkey with ⟨hr, _, _⟩ | ⟨x0, _, hx0, hxk, _⟩
        · exact hr
        · exact absurd hxk (h2 x0 hx0)
      rw [← hl, this]
    obtain ⟨c, hl, hat, _⟩ := h0.lookup_int K ht he (hz w) hkey
    rw [hrunL] at hl
    cases hl
    obtain ⟨w', g3, g4, g5⟩ := h0.update K ht hn hkey hpz
    rw [hrunU] at g3
    cases g3
    rw [hrunE] at hrun
    have hq := Result.ok.inj hrun
    obtain ⟨e1, e2⟩ := hsame hq.2
    subst e1 e2
    refine ⟨v0, st, _, _, _, by rw [hrunE]; exact hrun, g4, ?_, hst⟩
    rw [Maps.atKey_put_same (by rw [hD]; exact ⟨_, rfl⟩) (K.key hkey), hat]
  · have hj : es[j]? = some e0 := by simpa using h2
    have hsm : es.modify j (fun e => { e with key := key }) = es := by
      apply Array.ext'
      rw [Array.toList_modify, modify_eq_set _ _ _ _ h2]
      have : ({ e0 with key := key } : MapEntry) = e0 := by rw [← h3]
      rw [this]
      exact WideElems.set_self _ _ _ h2
    have hrunE : (Instr.mapEntry t (.map (some b)) key).run P w = .ok (.tuple #[e0.val, goInt e0.born]) (setBlock w b (.map es clock)) := by
      simp [Instr.mapEntry, run_underlying ht, MapKept.run_getObj_map hb, KL.check w false hkey, h1, hj, h3, KL.stays w hkey, hsm, MapKept.run_setObj_map _ hb, Result.andThen, setBlock]
    rw [hrunE] at hrun
    have hq := Result.ok.inj hrun
    obtain ⟨e1, e2⟩ := hsame hq.2
    subst e1 e2
    exact ⟨v0, st, _, _, D, by rw [hrunE]; exact hrun, ⟨es, clock, heap_setBlock_same hb _, F, by omega, hD⟩, rfl, hst⟩
end

/-- A map whose entry at a key has been laid open, to be written. -/
def aEnt (k e t : TypeId) (b n : Nat) (D : DataW Unit) (kl : Lit) (st : Nat) : Asrt where
  fp := [b]
  ok := fun w => ∃ (es1 : Array MapEntry) (clock1 : Nat) (D1 : DataW Unit), w.heap[b]? = some (.map es1 clock1) ∧ w.ownsMap Try.prog k (plainElem Try.prog e) b (n + 1) D1 ∧ D1.atKey kl (.lit (.int .i64 0)) = D.atKey kl (.lit (.int .i64 0)) ∧
    ∀ (w2 : World) (val : Value) (d : DataW Unit) (ps : List MemPlace), w2.heap[b]? = some (.map es1 clock1) → plainElem Try.prog e val = some (d, ps) → ∃ w3, (Instr.entryStore t (.map (some b)) (goInt st) val).run Try.prog w2 = .ok () w3 ∧ w3.ownsMap Try.prog k (plainElem Try.prog e) b (n + 1) (D.put kl d) ∧ w2.grownBy w3 (some b)
  loc := fun w w' hb h => by
    obtain ⟨es1, clock1, D1, h1, ⟨xs, ck, q1, q2⟩, h3, h4⟩ := h
    have hh := hb b (by simp)
    exact ⟨es1, clock1, D1, hh.trans h1, ⟨xs, ck, hh.trans q1, q2⟩, h3, h4⟩

section
variable {w0 w : World} {μ : List Asrt} {k e t : TypeId} {b n : Nat} {D : DataW Unit} {ops : Array Oper} {rest : List Oper} {o : Oper} {a : Act} {K : Act → World → Prop} {Q : Exit → Act → World → Prop} {EE : Prop}
/-- A map's literal: an entry of it. -/
theorem St.insertOp (hgd : o.guard = none) (m x v : Operand) (hop : o.op = Op.insert t m x v) (KL : WideMaps.KeyLaw Try.prog k) (ht : Try.prog.underlying t = some (.map k e)) (h : St w0 w (aMap k e b n D :: μ)) (hn : n < maxLen) (hm : a.eval m = .map (some b)) (key val : Value) {kl : Lit} (hx : a.eval x = key) (hv : a.eval v = val) (hkey : keyOf Try.prog k key = some kl)
    (d : DataW Unit) (ps : List MemPlace) (hval : plainElem Try.prog e val = some (d, ps)) (hK : ∀ w', St w0 w' (aMap k e b (n + 1) (D.put kl d) :: μ) → wpList Try.prog ops Q rest (a.put o.dst undef) w') : wpList Try.prog ops Q (o :: rest) a w := by
  refine wpList_plain hgd fun K' hK' => ?_
  obtain ⟨w', hrun, r1, r2⟩ := h.mapOwn.update (Maps.Keyed.of_law KL) ht hn hkey hval
  unfold Oper.wp
  simp [execOp, hop, hm, hx, hv, hrun, Result.andThen]
  exact hK' _ _ (hK w' (h.mapPut r1 r2))
/-- m[k], at a step. -/
theorem St.stepLook (hgd : o.guard = none) (m x : Operand) (hop : o.op = Op.lookup t m x false) (KL : WideMaps.KeyLaw Try.prog k) (ht : Try.prog.underlying t = some (.map k e)) (he : Try.prog.underlying e = some (.int .i64)) (hz : ∀ u : World, (zeroValue e).run Try.prog u = .ok (.int .i64 0) u) (h : w.ownsMap Try.prog k (plainElem Try.prog e) b n D) (hm : a.eval m = .map (some b)) (key : Value) {kl : Lit} (hx : a.eval x = key) (hkey : keyOf Try.prog k key = some kl)
    (c : Int) (hc : D.atKey kl (.lit (.int .i64 0)) = .lit (.int .i64 c)) (hK : K (a.put o.dst (.int .i64 c)) w) : if Region.wanted o (yielded ops a.tmps) = true then Oper.wp Try.prog o a w K Q else EE := by
  have hw : Region.wanted o (yielded ops a.tmps) = true := by simp [Region.wanted, hgd]
  rw [if_pos hw]
  obtain ⟨c', hl, hat, _⟩ := h.lookup_int (Maps.Keyed.of_law KL) ht he (hz w) hkey
  rw [hc] at hat
  cases hat
  unfold Oper.wp
  simp [execOp, hop, hm, hx, hl, Result.andThen]
  exact hK
theorem St.stepLook2 (hgd : o.guard = none) (m x : Operand) (hop : o.op = Op.lookup t m x false) (KL : WideMaps.KeyLaw Try.prog k) (ht : Try.prog.underlying t = some (.map k e)) (he : Try.prog.underlying e = some (.int .i64)) (hz : ∀ u : World, (zeroValue e).run Try.prog u = .ok (.int .i64 0) u) {kl : Lit} {st : Nat} (h : St w0 w (aEnt k e t b n D kl st :: μ)) (hm : a.eval m = .map (some b)) (key : Value) (hx : a.eval x = key) (hkey : keyOf Try.prog k key = some kl)
    (c : Int) (hc : D.atKey kl (.lit (.int .i64 0)) = .lit (.int .i64 c)) (hK : K (a.put o.dst (.int .i64 c)) w) : if Region.wanted o (yielded ops a.tmps) = true then Oper.wp Try.prog o a w K Q else EE := by
  obtain ⟨es1, clock1, D1, h1, h2, h3, _⟩ := h.ok _ (.head _)
  exact St.stepLook hgd m x hop KL ht he hz h2 hm key hx hkey c (h3.trans hc) hK
/-- The entry at k, at a step. -/
theorem St.stepEntry (hgd : o.guard = none) (m x : Operand) (hop : o.op = Op.mapEntry t m x) (KL : WideMaps.KeyLaw Try.prog k) (ht : Try.prog.underlying t = some (.map k e)) (he : Try.prog.underlying e = some (.int .i64)) (hz : ∀ u : World, (zeroValue e).run Try.prog u = .ok (.int .i64 0) u) (h : St w0 w (aMap k e b n D :: μ)) (hn : n < maxLen) (hm : a.eval m = .map (some b)) (key : Value) {kl : Lit} (hx : a.eval x = key) (hkey : keyOf Try.prog k key = some kl)
    (hK : ∀ v0 st w', St w0 w' (aEnt k e t b n D kl st :: μ) → K (a.put o.dst (.tuple #[v0, goInt (st : Nat)])) w') : if Region.wanted o (yielded ops a.tmps) = true then Oper.wp Try.prog o a w K Q else EE := by
  have hw : Region.wanted o (yielded ops a.tmps) = true := by simp [Region.wanted, hgd]
  rw [if_pos hw]
  have hown := h.mapOwn
  obtain ⟨v0, st, es1, clock1, D1, hrun, g1, g2, g3⟩ := entry_own hown KL ht he hz hn hkey
  obtain ⟨es, clock, hb, _⟩ := hown
  unfold Oper.wp
  simp only [execOp, hop, hm, hx, Sem.run_bind, hrun, Result.andThen_ok, Sem.run_pure]
  refine hK v0 st _ (h.upd rfl rfl rfl (by simp [setBlock]) (fun i hi hm => heap_setBlock_other hb _ (fun e => hm (by simp [aMap, e]))) ⟨es1, clock1, D1, heap_setBlock_same hb _, g1, g2, g3⟩ (fun i hi => .inl hi) (by simp [aEnt]))
/-- It is written, at a step. -/
theorem St.stepEntryStore (hgd : o.guard = none) (m s v : Operand) (hop : o.op = Op.entryStore t m s v) {kl : Lit} {st : Nat} (h : St w0 w (aEnt k e t b n D kl st :: μ)) (hm : a.eval m = .map (some b)) (hs : a.eval s = goInt (st : Nat)) (val : Value) (hv : a.eval v = val)
    (d : DataW Unit) (ps : List MemPlace) (hval : plainElem Try.prog e val = some (d, ps)) (hK : ∀ w', St w0 w' (aMap k e b (n + 1) (D.put kl d) :: μ) → K (a.put o.dst undef) w') : if Region.wanted o (yielded ops a.tmps) = true then Oper.wp Try.prog o a w K Q else EE := by
  have hw : Region.wanted o (yielded ops a.tmps) = true := by simp [Region.wanted, hgd]
  rw [if_pos hw]
  obtain ⟨es1, clock1, D1, h1, _, _, h4⟩ := h.ok _ (.head _)
  obtain ⟨w3, hrun, g1, g2⟩ := h4 w val d ps h1 hval
  unfold Oper.wp
  simp only [execOp, hop, hm, hs, hv, Sem.run_bind, hrun, Result.andThen_ok, Sem.run_pure]
  refine hK w3 (h.upd g2.os g2.tape g2.output g2.size (fun i hi hm => g2.block i hi (fun he => hm (by simp [aEnt]; exact (Option.some.inj he)))) g1 (fun i hi => .inl hi) (by simp [aMap]))
end
end Go.Proofs.Ytkhjncbjdldpbaa

/-
  Small things that walks share. (A helper text; it claims nothing of the program.)
-/
namespace Go.Proofs.Ytkhjncbjdldpbaa
set_option linter.unusedVariables false
set_option linter.unusedSimpArgs false
open Go.ChangeShapes Go.WideShapes Go.ChangeAt Go.RowKit

theorem St.toBack2 {w0 w : World} {μ ν : List Asrt} (h : St w0 w (ν ++ μ)) : St w0 w (μ ++ ν) := h.perm List.perm_append_comm
theorem Fc.callC2 {c : Nat} {fn : Func} (hf : Try.prog.funcs[c]? = some fn) (hn : (fn.name == "runtime.NumGoroutine") = false) (hb : fn.body.isNone = false) (args : Array Value) (W : World) : (callFunc c args).run Try.prog W = .ok (.enter c args) W := by
  have hn2 : ¬ fn.name = "runtime.NumGoroutine" := fun e => by rw [e] at hn; simp at hn
  have hb2 : ¬ fn.body = none := fun e => by rw [e] at hb; cases hb
  simp [callFunc, go_sem, hf, hn2, hb2]

namespace Cp
theorem zeroE (w : World) : (zeroValue 3).run Try.prog w = .ok (.int .i64 0) w := by kernel_rfl
theorem tsz : ∃ m, Try.prog.types.size = m + 1 := ⟨Try.prog.types.size - 1, by kernel_rfl⟩
theorem stepAlloc {P : Program} {w0 w : World} {μ : List Asrt} {ops : Array Oper} {o : Oper} {a : Act} {K : Act → World → Prop} {Q : Exit → Act → World → Prop} {EE : Prop} {T : TypeId} {cs : Array Value} (hgd : o.guard = none) (ha : o.op = Op.alloc T) (hr : ∀ u : World, (execOp a.eval o).run P u = .ok (.value (.pointer (some ⟨u.heap.size, 0, none⟩))) (u.alloc (.cells cs T)))
    (h : St w0 w μ) (hK : ∀ g w', St w0 w' (aCel g T cs :: μ) → K (a.put o.dst (.pointer (some ⟨g, 0, none⟩))) w') : if Region.wanted o (yielded ops a.tmps) = true then Oper.wp P o a w K Q else EE :=
  St.stepNew hgd hr h hK
theorem share0 {P A : World → Prop} {G : Prop} (h1 : (∀ W, A W → P W) → G) (h2 : ∀ W, A W → P W) : G := h1 h2
theorem shareE {P A : Value → Nat → World → Prop} {G : Prop} (h1 : (∀ v s W, A v s W → P v s W) → G) (h2 : ∀ v s W, A v s W → P v s W) : G := h1 h2
theorem share2 {P A : Nat → Nat → World → Prop} {G : Prop} (h1 : (∀ g s W, A g s W → P g s W) → G) (h2 : ∀ g s W, A g s W → P g s W) : G := h1 h2
end Cp
end Go.Proofs.Ytkhjncbjdldpbaa

/-
  Blocks of four cells. (A helper text; it claims nothing of the program.)
-/
namespace Go.Proofs.Ytkhjncbjdldpbaa
set_option linter.unusedVariables false
open Go.ChangeShapes Go.WideShapes Go.ChangeAt Go.RowKit

theorem St.at4 {w0 w : World} {μ : List Asrt} {g : Nat} {T : TypeId} {v0 v1 v2 v3 : Value} (h : St w0 w μ) (i : Nat) (hA : μ[i]? = some (aCel g T #[v0, v1, v2, v3])) : w.cell? ⟨g, 0, none⟩ = some v0 ∧ w.cell? ⟨g, 1, none⟩ = some v1 ∧ w.cell? ⟨g, 2, none⟩ = some v2 ∧ w.cell? ⟨g, 3, none⟩ = some v3 :=
  ⟨(h.nth i hA).celAt rfl, (h.nth i hA).celAt rfl, (h.nth i hA).celAt rfl, (h.nth i hA).celAt rfl⟩
theorem St.cel4 {w0 w : World} {μ : List Asrt} {g : Nat} {T : TypeId} {v0 v1 v2 v3 : Value} (h : St w0 w (aCel g T #[v0, v1, v2, v3] :: μ)) :
    w.cell? ⟨g, 0, none⟩ = some v0 ∧ w.cell? ⟨g, 1, none⟩ = some v1 ∧ w.cell? ⟨g, 2, none⟩ = some v2 ∧ w.cell? ⟨g, 3, none⟩ = some v3 ∧ w.frozen? ⟨g, 0, none⟩ = false ∧ w.frozen? ⟨g, 1, none⟩ = false ∧ w.frozen? ⟨g, 2, none⟩ = false ∧ w.frozen? ⟨g, 3, none⟩ = false :=
  ⟨h.celAt rfl, h.celAt rfl, h.celAt rfl, h.celAt rfl, h.celFree 0, h.celFree 1, h.celFree 2, h.celFree 3⟩
end Go.Proofs.Ytkhjncbjdldpbaa

/-
  put of package items' closed: an item more, if it is new.
-/
namespace Go.Proofs.Ytkhjncbjdldpbaa
set_option linter.unusedVariables false
set_option linter.unusedSimpArgs false
open Go.ChangeShapes Go.WideShapes Go.ChangeAt Go.RowKit

namespace It
def itV (x : I) : Value := .agg #[.int .i64 x.1, .int .i64 x.2.1, .int .i64 x.2.2]
theorem itV_inj (x y : I) (h : itV x = itV y) : x = y := by
  simp only [itV, Value.agg.injEq, Array.mk.injEq, List.cons.injEq, Value.int.injEq, true_and, and_true] at h
  exact Prod.ext h.1 (Prod.ext h.2.1 h.2.2)
theorem it_one (x : I) : ∀ q ∈ (itV x).cells.toList, q.oneCell' = true := by
  intro q hq
  simp [itV, Value.cells] at hq
  rcases hq with rfl | rfl | rfl <;> rfl
theorem itemE : ET Try.prog 59 72 3 24 := ET.mk' Try.underlying59 (z := .agg #[.int .i64 0, .int .i64 0, .int .i64 0]) (by kernel_rfl) rfl (by decide)
theorem law : WideMaps.KeyLaw Try.prog 72 := deep_law (m := 3) (by omega) (by kernel_rfl) (by kernel_rfl) (by kernel_rfl)
theorem zeroE (w : World) : (zeroValue 3).run Try.prog w = .ok (.int .i64 0) w := by kernel_rfl
def fits (x : I) : Prop := (Lit.int .i64 x.1).wf = true ∧ (Lit.int .i64 x.2.1).wf = true ∧ (Lit.int .i64 x.2.2).wf = true
theorem itKey (x : I) (h : fits x) : ∃ kl, keyOf Try.prog 72 (itV x) = some kl := by
  have hk : Try.prog.keyType 72 = true := by kernel_rfl
  have hc : Try.prog.cellsOf 72 = 3 := by kernel_rfl
  have hci : Try.prog.cellsOf 3 = 1 := by kernel_rfl
  obtain ⟨m, hm⟩ : ∃ m, Try.prog.types.size = m + 1 := ⟨Try.prog.types.size - 1, by kernel_rfl⟩
  have hu := Try.underlying72
  have hi := Try.underlying3
  obtain ⟨h1, h2, h3⟩ := h
  unfold keyOf itV
  simp only [hu]
  rw [if_pos (by simp [hk, Value.formed, hu, hc]), hm]
  unfold Program.keyLits
  simp only [hu, Value.cells]
  rw [if_pos (by rw [hc]; exact ⟨rfl, by simp⟩)]
  simp [hci, Program.keyLits, hi, h1, h2, h3]
/-- The map counts how often each came; m: how often any. -/
def Kept (M : DataW Unit) (out : List I) (m : Nat) : Prop := ∃ (T : List (I × Int)) (cnt : I → Nat), Tells 72 itV M T ∧ (∀ c, numAt T c = (cnt c : Int)) ∧ (∀ c, cnt c ≤ m) ∧ ∀ c, 0 < cnt c ↔ c ∈ out
theorem kept_nil : Kept (.map [] : DataW Unit) [] 0 := ⟨[], fun _ => 0, Tells.nil, fun _ => rfl, fun _ => Nat.le_refl _, fun c => by simp⟩
theorem Kept.at {M : DataW Unit} {out : List I} {m : Nat} (h : Kept M out m) {c : I} {kl : Lit} (hk : keyOf Try.prog 72 (itV c) = some kl) :
    ∃ n : Nat, n ≤ m ∧ M.atKey kl (.lit (.int .i64 0)) = .lit (.int .i64 (n : Int)) ∧ (0 < n ↔ c ∈ out) ∧ (∀ cv : Int, cv = n + 1 → Kept (M.put kl (.lit (.int .i64 cv))) (put out c) (m + 1) ∧ (M.put kl (.lit (.int .i64 cv))).atKey kl (.lit (.int .i64 0)) = .lit (.int .i64 cv)) := by
  obtain ⟨T, cnt, hT, hn, hm, ho⟩ := h
  refine ⟨cnt c, hm c, by rw [(hT.2 c kl hk).2, hn], ho c, fun cv hcv => ⟨⟨(c, cv) :: T, fun d => if d = c then cnt c + 1 else cnt d, hT.put (Maps.Keyed.of_law law) itV_inj hk cv, fun d => ?_, fun d => ?_, fun d => ?_⟩, Maps.atKey_put_same hT.1.isMap ((Maps.Keyed.of_law law).key hk) _ _⟩⟩
  · by_cases hd : c = d
    · subst hd; simp [numAt, hcv]
    · have := hn d
      unfold numAt at this ⊢
      simp only [List.find?_cons, hd, decide_false]
      rw [this, if_neg (fun e => hd e.symm)]
  · have h1 := hm d; have h2 := hm c
    simp only
    split <;> omega
  · rw [put_mem]
    simp only
    split
    · rename_i e
      exact ⟨fun _ => .inr e, fun _ => by omega⟩
    · rename_i e
      rw [ho d]
      exact ⟨.inl, fun h => h.elim id (fun h => absurd h e)⟩
end It

set_option maxRecDepth 100000 in
set_option maxHeartbeats 4000000 in
theorem itPut_any (w0 w : World) (g5 g6 gm m : Nat) (M : DataW Unit) (a : Option Addr) (n c : Nat) (out : List It.I) (x : It.I) (μ : List Asrt) (hx : It.fits x) (hK : It.Kept M out m) (hm : m < 1000000000) (hl : out.length ≤ 1000000000)
    (h : St w0 w (aCel g5 188 #[.map (some gm)] :: aCel g6 59 #[.slice a n c] :: aOwn 72 3 (.slice a n c) (out.map It.itV) :: aMap 72 3 gm m M :: μ)) :
    Calls Try.prog 108 #[It.itV x, .pointer (some ⟨g5, 0, none⟩), .pointer (some ⟨g6, 0, none⟩)] w fun e w' => ∃ M' a' n' c', e = .returned (.tuple #[]) ∧ It.Kept M' (It.put out x) (m + 1) ∧ St w0 w' (aCel g5 188 #[.map (some gm)] :: aCel g6 59 #[.slice a' n' c'] :: aOwn 72 3 (.slice a' n' c') ((It.put out x).map It.itV) :: aMap 72 3 gm (m + 1) M' :: μ) := by
  obtain ⟨kl, hkl⟩ := It.itKey x hx
  obtain ⟨cnt, hcm, hat, hin, hput⟩ := hK.at hkl
  obtain ⟨x1, x2, x3⟩ := x
  obtain ⟨cv, hcv⟩ : ∃ cv : Int, (cnt : Int) + 1 = cv := ⟨_, rfl⟩
  obtain ⟨hnew, hatn⟩ := hput cv hcv.symm
  have hwr : IntKind.i64.wrap ((cnt : Int) + 1) = cv := by rw [← hcv]; exact IntWalk.i64_in _ (by omega)
  have hcw := Lib.hid (show (Lit.int .i64 cv).wf = true from WalkArith.wf_i64 (by omega))
  have hst := h.alloc #[.int .i64 x1, .int .i64 x2, .int .i64 x3] 72
  have HKL := Lib.hid hkl; have HAT := Lib.hid hat; have HATN := Lib.hid hatn; have HNEW := Lib.hid hnew; have HIN := Lib.hid hin; have HLEN := Lib.hid hl
  have hmx : m < 1000000000 := hm
  have HCV := Lib.hid hcv
  unfold It.itV
  clear hx hK h hkl hat hin hput hnew hatn hl hcv
  have HST := Lib.hid (hst.pick (ρ := aMap 72 3 gm m M :: aCel w.heap.size 72 #[.int .i64 x1, .int .i64 x2, .int .i64 x3] :: aCel g5 188 #[.map (some gm)] :: aCel g6 59 #[.slice a n c] :: aOwn 72 3 (.slice a n c) (out.map It.itV) :: μ) [4, 0, 1, 2, 3] 5 rfl rfl)
  clear hst
  go_enter Try.func108, Try.ntmps108
  go_wp2_with (fail)
  generalize w.alloc (.cells #[.int .i64 x1, .int .i64 x2, .int .i64 x3] 72) = w4 at *
  generalize w.heap.size = gx at *
  obtain ⟨z0, z1, z2⟩ := HST.out.at3 1 rfl
  have y0 := (HST.out.nth 2 rfl).celAt (i := 0) (v := .map (some gm)) rfl
  have HM := Lib.hid HST.out.drew
  refine Cp.shareE (P := ?PSh) (A := fun _ _ W => St w0 W (aMap 72 3 gm (m + 1) (M.put kl (.lit (.int .i64 cv))) :: aCel gx 72 #[.int .i64 x1, .int .i64 x2, .int .i64 x3] :: aCel g5 188 #[.map (some gm)] :: aCel g6 59 #[.slice a n c] :: aOwn 72 3 (.slice a n c) (out.map It.itV) :: μ)) (fun REST => ?h3) ?h4
  case h3 =>
    refine wp_region_held_drew (S := (fun w' => w'.cell? ⟨g5, 0, none⟩ = some (.map (some gm)) ∧ w'.cell? ⟨gx, 0, none⟩ = some (.int .i64 x1) ∧ w'.cell? ⟨gx, 1, none⟩ = some (.int .i64 x2) ∧ w'.cell? ⟨gx, 2, none⟩ = some (.int .i64 x3))) (by kernel_rfl) ?_ (fun hHeld => ?_)
    · (try dsimp only); (first | exact ⟨y0, z0, z1, z2⟩ | exact ⟨(HE.out.nth 2 rfl).celAt (i := 0) rfl, HE.out.at3 1 rfl⟩ | exact ⟨(HM2.out.nth 2 rfl).celAt (i := 0) rfl, HM2.out.at3 1 rfl⟩)

    refine wpAnyH_take (i := 0) (v := ?_) rfl (by kernel_rfl) (by kernel_rfl) (by kernel_rfl) (fun _ _ _ h => h) (Or.inl ⟨by rfl, ?_⟩) (by assumption) ?_
    rotate_left; focus (intro w hSw; (try dsimp only at hSw); go_simp; try (with_reducible rfl); done)
    try simp only [List.getElem_toArray, List.getElem_cons_zero, List.getElem_cons_succ, Act.put, List.setIfInBounds_toArray, List.set_cons_zero, List.set_cons_succ]
    refine wpAnyH_take (i := 1) (v := ?_) rfl (by kernel_rfl) (by kernel_rfl) (by kernel_rfl) (fun _ _ _ h => h) (Or.inl ⟨by rfl, ?_⟩) (by assumption) ?_
    rotate_left; focus (intro w hSw; (try dsimp only at hSw); go_simp; try (with_reducible rfl); done)
    try simp only [List.getElem_toArray, List.getElem_cons_zero, List.getElem_cons_succ, Act.put, List.setIfInBounds_toArray, List.set_cons_zero, List.set_cons_succ]
    refine wpAnyH_ready (rs := [2, 4]) (by kernel_rfl) (by simp) ?_
    refine AllReadyH.cons rfl (fun K hK => ?_) (AllReadyH.cons rfl (fun K hK => ?_) (AllReadyH.nil))
    · skip
      (first | (refine St.stepLook rfl (.tmp 4) (.tmp 5) rfl It.law Try.underlying188 Try.underlying3 It.zeroE HM.out.mapOwn rfl (.agg #[.int .i64 x1, .int .i64 x2, .int .i64 x3]) rfl HKL.out cnt HAT.out ?_) | (refine St.stepLook2 rfl (.tmp 4) (.tmp 5) rfl It.law Try.underlying188 Try.underlying3 It.zeroE HE.out rfl (.agg #[.int .i64 x1, .int .i64 x2, .int .i64 x3]) rfl HKL.out cnt HAT.out ?_) | (refine St.stepEntry rfl (.tmp 4) (.tmp 5) rfl It.law Try.underlying188 Try.underlying3 It.zeroE HM.out (by unfold maxLen; omega) rfl (.agg #[.int .i64 x1, .int .i64 x2, .int .i64 x3]) rfl HKL.out ?_; intro v0 st w8 hst8; have HE := Lib.hid hst8; clear hst8) | (refine St.stepEntryStore rfl (.tmp 4) (.tmp 9) (.tmp 7) rfl HE.out rfl rfl (.int .i64 cv) (by first | rfl | (simp [Act.eval]; done) | (simp [Act.eval]; omega)) (.lit (.int .i64 cv)) [] (plainElem_int Try.underlying3 hcw.out) ?_; intro w8 hst8; have HM2 := Lib.hid hst8; clear hst8))
      refine hK.out _ _ ?_ (fun hHeld => ?_)
      · (try dsimp only); (first | exact ⟨y0, z0, z1, z2⟩ | exact ⟨(HE.out.nth 2 rfl).celAt (i := 0) rfl, HE.out.at3 1 rfl⟩ | exact ⟨(HM2.out.nth 2 rfl).celAt (i := 0) rfl, HM2.out.at3 1 rfl⟩)
      clear hK K
      try simp only [List.getElem_toArray, List.getElem_cons_zero, List.getElem_cons_succ, Act.put, List.setIfInBounds_toArray, List.set_cons_zero, List.set_cons_succ]
      refine wpAnyH_take (i := 3) (v := ?_) rfl (by kernel_rfl) (by kernel_rfl) (by kernel_rfl) (fun _ _ _ h => h) (Or.inl ⟨by rfl, ?_⟩) (by assumption) ?_
      rotate_left; focus (intro w hSw; (try dsimp only at hSw); go_simp; try (with_reducible rfl); done)
      try simp only [List.getElem_toArray, List.getElem_cons_zero, List.getElem_cons_succ, Act.put, List.setIfInBounds_toArray, List.set_cons_zero, List.set_cons_succ]
      refine wpAnyH_ready (rs := [4]) (by kernel_rfl) (by simp) ?_
      refine AllReadyH.cons rfl (fun K hK => ?_) (AllReadyH.nil)
      (first | (refine St.stepLook rfl (.tmp 4) (.tmp 5) rfl It.law Try.underlying188 Try.underlying3 It.zeroE HM.out.mapOwn rfl (.agg #[.int .i64 x1, .int .i64 x2, .int .i64 x3]) rfl HKL.out cnt HAT.out ?_) | (refine St.stepLook2 rfl (.tmp 4) (.tmp 5) rfl It.law Try.underlying188 Try.underlying3 It.zeroE HE.out rfl (.agg #[.int .i64 x1, .int .i64 x2, .int .i64 x3]) rfl HKL.out cnt HAT.out ?_) | (refine St.stepEntry rfl (.tmp 4) (.tmp 5) rfl It.law Try.underlying188 Try.underlying3 It.zeroE HM.out (by unfold maxLen; omega) rfl (.agg #[.int .i64 x1, .int .i64 x2, .int .i64 x3]) rfl HKL.out ?_; intro v0 st w8 hst8; have HE := Lib.hid hst8; clear hst8) | (refine St.stepEntryStore rfl (.tmp 4) (.tmp 9) (.tmp 7) rfl HE.out rfl rfl (.int .i64 cv) (by first | rfl | (simp [Act.eval]; done) | (simp [Act.eval]; omega)) (.lit (.int .i64 cv)) [] (plainElem_int Try.underlying3 hcw.out) ?_; intro w8 hst8; have HM2 := Lib.hid hst8; clear hst8))
      refine hK.out _ _ ?_ (fun hHeld => ?_)
      · (try dsimp only); (first | exact ⟨y0, z0, z1, z2⟩ | exact ⟨(HE.out.nth 2 rfl).celAt (i := 0) rfl, HE.out.at3 1 rfl⟩ | exact ⟨(HM2.out.nth 2 rfl).celAt (i := 0) rfl, HM2.out.at3 1 rfl⟩)
      clear hK K
      try simp only [List.getElem_toArray, List.getElem_cons_zero, List.getElem_cons_succ, Act.put, List.setIfInBounds_toArray, List.set_cons_zero, List.set_cons_succ]
      refine wpAnyH_take (i := 5) (v := ?_) rfl (by kernel_rfl) (by kernel_rfl) (by kernel_rfl) (fun _ _ _ h => h) (Or.inl ⟨by rfl, ?_⟩) (by assumption) ?_
      rotate_left; focus (intro w hSw; (try dsimp only at hSw); go_simp; try (with_reducible rfl); done)
      try simp only [List.getElem_toArray, List.getElem_cons_zero, List.getElem_cons_succ, Act.put, List.setIfInBounds_toArray, List.set_cons_zero, List.set_cons_succ]
      refine wpAnyH_ready (rs := [6]) (by kernel_rfl) (by simp) ?_
      refine AllReadyH.cons rfl (fun K hK => ?_) AllReadyH.nil
      (first | (refine St.stepLook rfl (.tmp 4) (.tmp 5) rfl It.law Try.underlying188 Try.underlying3 It.zeroE HM.out.mapOwn rfl (.agg #[.int .i64 x1, .int .i64 x2, .int .i64 x3]) rfl HKL.out cnt HAT.out ?_) | (refine St.stepLook2 rfl (.tmp 4) (.tmp 5) rfl It.law Try.underlying188 Try.underlying3 It.zeroE HE.out rfl (.agg #[.int .i64 x1, .int .i64 x2, .int .i64 x3]) rfl HKL.out cnt HAT.out ?_) | (refine St.stepEntry rfl (.tmp 4) (.tmp 5) rfl It.law Try.underlying188 Try.underlying3 It.zeroE HM.out (by unfold maxLen; omega) rfl (.agg #[.int .i64 x1, .int .i64 x2, .int .i64 x3]) rfl HKL.out ?_; intro v0 st w8 hst8; have HE := Lib.hid hst8; clear hst8) | (refine St.stepEntryStore rfl (.tmp 4) (.tmp 9) (.tmp 7) rfl HE.out rfl rfl (.int .i64 cv) (by first | rfl | (simp [Act.eval]; done) | (simp [Act.eval]; omega)) (.lit (.int .i64 cv)) [] (plainElem_int Try.underlying3 hcw.out) ?_; intro w8 hst8; have HM2 := Lib.hid hst8; clear hst8))
      refine hK.out _ _ ?_ (fun hHeld => ?_)
      · (try dsimp only); (first | exact ⟨y0, z0, z1, z2⟩ | exact ⟨(HE.out.nth 2 rfl).celAt (i := 0) rfl, HE.out.at3 1 rfl⟩ | exact ⟨(HM2.out.nth 2 rfl).celAt (i := 0) rfl, HM2.out.at3 1 rfl⟩)
      clear hK K
      try simp only [List.getElem_toArray, List.getElem_cons_zero, List.getElem_cons_succ, Act.put, List.setIfInBounds_toArray, List.set_cons_zero, List.set_cons_succ]
      refine wpAnyH_done (by kernel_rfl) ?_ _
      exact REST v0 st _ HM2.out
    · skip
      (first | (refine St.stepLook rfl (.tmp 4) (.tmp 5) rfl It.law Try.underlying188 Try.underlying3 It.zeroE HM.out.mapOwn rfl (.agg #[.int .i64 x1, .int .i64 x2, .int .i64 x3]) rfl HKL.out cnt HAT.out ?_) | (refine St.stepLook2 rfl (.tmp 4) (.tmp 5) rfl It.law Try.underlying188 Try.underlying3 It.zeroE HE.out rfl (.agg #[.int .i64 x1, .int .i64 x2, .int .i64 x3]) rfl HKL.out cnt HAT.out ?_) | (refine St.stepEntry rfl (.tmp 4) (.tmp 5) rfl It.law Try.underlying188 Try.underlying3 It.zeroE HM.out (by unfold maxLen; omega) rfl (.agg #[.int .i64 x1, .int .i64 x2, .int .i64 x3]) rfl HKL.out ?_; intro v0 st w8 hst8; have HE := Lib.hid hst8; clear hst8) | (refine St.stepEntryStore rfl (.tmp 4) (.tmp 9) (.tmp 7) rfl HE.out rfl rfl (.int .i64 cv) (by first | rfl | (simp [Act.eval]; done) | (simp [Act.eval]; omega)) (.lit (.int .i64 cv)) [] (plainElem_int Try.underlying3 hcw.out) ?_; intro w8 hst8; have HM2 := Lib.hid hst8; clear hst8))
      refine hK.out _ _ ?_ (fun hHeld => ?_)
      · (try dsimp only); (first | exact ⟨y0, z0, z1, z2⟩ | exact ⟨(HE.out.nth 2 rfl).celAt (i := 0) rfl, HE.out.at3 1 rfl⟩ | exact ⟨(HM2.out.nth 2 rfl).celAt (i := 0) rfl, HM2.out.at3 1 rfl⟩)
      clear hK K
      try simp only [List.getElem_toArray, List.getElem_cons_zero, List.getElem_cons_succ, Act.put, List.setIfInBounds_toArray, List.set_cons_zero, List.set_cons_succ]
      refine wpAnyH_take (i := 5) (v := ?_) rfl (by kernel_rfl) (by kernel_rfl) (by kernel_rfl) (fun _ _ _ h => h) (Or.inl ⟨by rfl, ?_⟩) (by assumption) ?_
      rotate_left; focus (intro w hSw; (try dsimp only at hSw); go_simp; try (with_reducible rfl); done)
      try simp only [List.getElem_toArray, List.getElem_cons_zero, List.getElem_cons_succ, Act.put, List.setIfInBounds_toArray, List.set_cons_zero, List.set_cons_succ]
      refine wpAnyH_ready (rs := [2]) (by kernel_rfl) (by simp) ?_
      refine AllReadyH.cons rfl (fun K hK => ?_) (AllReadyH.nil)
      (first | (refine St.stepLook rfl (.tmp 4) (.tmp 5) rfl It.law Try.underlying188 Try.underlying3 It.zeroE HM.out.mapOwn rfl (.agg #[.int .i64 x1, .int .i64 x2, .int .i64 x3]) rfl HKL.out cnt HAT.out ?_) | (refine St.stepLook2 rfl (.tmp 4) (.tmp 5) rfl It.law Try.underlying188 Try.underlying3 It.zeroE HE.out rfl (.agg #[.int .i64 x1, .int .i64 x2, .int .i64 x3]) rfl HKL.out cnt HAT.out ?_) | (refine St.stepEntry rfl (.tmp 4) (.tmp 5) rfl It.law Try.underlying188 Try.underlying3 It.zeroE HM.out (by unfold maxLen; omega) rfl (.agg #[.int .i64 x1, .int .i64 x2, .int .i64 x3]) rfl HKL.out ?_; intro v0 st w8 hst8; have HE := Lib.hid hst8; clear hst8) | (refine St.stepEntryStore rfl (.tmp 4) (.tmp 9) (.tmp 7) rfl HE.out rfl rfl (.int .i64 cv) (by first | rfl | (simp [Act.eval]; done) | (simp [Act.eval]; omega)) (.lit (.int .i64 cv)) [] (plainElem_int Try.underlying3 hcw.out) ?_; intro w8 hst8; have HM2 := Lib.hid hst8; clear hst8))
      refine hK.out _ _ ?_ (fun hHeld => ?_)
      · (try dsimp only); (first | exact ⟨y0, z0, z1, z2⟩ | exact ⟨(HE.out.nth 2 rfl).celAt (i := 0) rfl, HE.out.at3 1 rfl⟩ | exact ⟨(HM2.out.nth 2 rfl).celAt (i := 0) rfl, HM2.out.at3 1 rfl⟩)
      clear hK K
      try simp only [List.getElem_toArray, List.getElem_cons_zero, List.getElem_cons_succ, Act.put, List.setIfInBounds_toArray, List.set_cons_zero, List.set_cons_succ]
      refine wpAnyH_take (i := 3) (v := ?_) rfl (by kernel_rfl) (by kernel_rfl) (by kernel_rfl) (fun _ _ _ h => h) (Or.inl ⟨by rfl, ?_⟩) (by assumption) ?_
      rotate_left; focus (intro w hSw; (try dsimp only at hSw); go_simp; try (with_reducible rfl); done)
      try simp only [List.getElem_toArray, List.getElem_cons_zero, List.getElem_cons_succ, Act.put, List.setIfInBounds_toArray, List.set_cons_zero, List.set_cons_succ]
      refine wpAnyH_ready (rs := [6]) (by kernel_rfl) (by simp) ?_
      refine AllReadyH.cons rfl (fun K hK => ?_) AllReadyH.nil
      (first | (refine St.stepLook rfl (.tmp 4) (.tmp 5) rfl It.law Try.underlying188 Try.underlying3 It.zeroE HM.out.mapOwn rfl (.agg #[.int .i64 x1, .int .i64 x2, .int .i64 x3]) rfl HKL.out cnt HAT.out ?_) | (refine St.stepLook2 rfl (.tmp 4) (.tmp 5) rfl It.law Try.underlying188 Try.underlying3 It.zeroE HE.out rfl (.agg #[.int .i64 x1, .int .i64 x2, .int .i64 x3]) rfl HKL.out cnt HAT.out ?_) | (refine St.stepEntry rfl (.tmp 4) (.tmp 5) rfl It.law Try.underlying188 Try.underlying3 It.zeroE HM.out (by unfold maxLen; omega) rfl (.agg #[.int .i64 x1, .int .i64 x2, .int .i64 x3]) rfl HKL.out ?_; intro v0 st w8 hst8; have HE := Lib.hid hst8; clear hst8) | (refine St.stepEntryStore rfl (.tmp 4) (.tmp 9) (.tmp 7) rfl HE.out rfl rfl (.int .i64 cv) (by first | rfl | (simp [Act.eval]; done) | (simp [Act.eval]; omega)) (.lit (.int .i64 cv)) [] (plainElem_int Try.underlying3 hcw.out) ?_; intro w8 hst8; have HM2 := Lib.hid hst8; clear hst8))
      refine hK.out _ _ ?_ (fun hHeld => ?_)
      · (try dsimp only); (first | exact ⟨y0, z0, z1, z2⟩ | exact ⟨(HE.out.nth 2 rfl).celAt (i := 0) rfl, HE.out.at3 1 rfl⟩ | exact ⟨(HM2.out.nth 2 rfl).celAt (i := 0) rfl, HM2.out.at3 1 rfl⟩)
      clear hK K
      try simp only [List.getElem_toArray, List.getElem_cons_zero, List.getElem_cons_succ, Act.put, List.setIfInBounds_toArray, List.set_cons_zero, List.set_cons_succ]
      refine wpAnyH_done (by kernel_rfl) ?_ _
      exact REST v0 st _ HM2.out
  intro v0 st w9 hst
  have HM2 := Lib.hid hst
  clear HST HM z0 z1 z2 y0 hst
  obtain ⟨z0, z1, z2⟩ := HM2.out.at3 1 rfl
  have y0 := (HM2.out.nth 2 rfl).celAt (i := 0) (v := .map (some gm)) rfl
  have q0 := (HM2.out.nth 3 rfl).celAt (i := 0) (v := .slice a n c) rfl
  have f0 := (HM2.out.nth 3 rfl).celFree 0
  have HOWN := Lib.hid (HM2.out.mapOwn)
  have hcv := HCV.out
  by_cases h0 : 0 < cnt
  · have hgt : (cv == 1) = false := by rw [beq_eq_false_iff_ne]; omega
    have hpe := It.put_old (HIN.out.1 h0)
    have HPE := Lib.hid hpe
    clear hpe h0
    go_wp2_with ((at_lookup; refine wpList_lookup_own_int _ rfl _ _ 188 rfl 72 3 .i64 (Maps.Keyed.of_law It.law) Try.underlying188 Try.underlying3 (It.zeroE _) gm (m + 1) _ rfl HOWN.out (.agg #[.int .i64 x1, .int .i64 x2, .int .i64 x3]) kl rfl HKL.out ?_; intro cx hax hwx; have hcx := (by have h9 := hax.symm.trans HATN.out; simp only [DataW.lit.injEq, Lit.int.injEq, true_and] at h9; exact h9.symm); subst hcx; clear hax hwx))
    go_end0
    refine ⟨_, a, n, c, rfl, HNEW.out, ?_⟩
    rw [HPE.out]
    exact HM2.out.pick [2, 3, 4, 0] 5 rfl rfl
  · have hgt : (cv == 1) = true := by rw [beq_iff_eq]; omega
    have hpe := It.put_new (fun hm => h0 (HIN.out.2 hm))
    have HPE := Lib.hid hpe
    clear hpe h0
    have HSTO := Lib.hid (HM2.out.pick (ρ := aOwn 72 3 (.slice a n c) (out.map It.itV) :: aMap 72 3 gm (m + 1) (M.put kl (.lit (.int .i64 cv))) :: aCel g5 188 #[.map (some gm)] :: aCel g6 59 #[.slice a n c] :: μ) [4, 0, 2, 3] 5 rfl rfl)
    go_wp2_with (first
      | (at_lookup; refine wpList_lookup_own_int _ rfl _ _ 188 rfl 72 3 .i64 (Maps.Keyed.of_law It.law) Try.underlying188 Try.underlying3 (It.zeroE _) gm (m + 1) _ rfl HOWN.out (.agg #[.int .i64 x1, .int .i64 x2, .int .i64 x3]) kl rfl HKL.out ?_; intro cx hax hwx; have hcx := (by have h9 := hax.symm.trans HATN.out; simp only [DataW.lit.injEq, Lit.int.injEq, true_and] at h9; exact h9.symm); subst hcx; clear hax hwx)
      | (at_builtin; refine St.app1n It.itemE rfl (.tmp 14) (.tmp 16) rfl rfl HSTO.out (It.itV (x1, x2, x3)) rfl _ 1 rfl (by simp) rfl (It.it_one _) (by rw [List.length_map]; have := HLEN.out; unfold maxLen; omega) (by rw [List.length_map]; have := HLEN.out; omega) ?_; intro g3 n3 cap3 w5 hst3; have HST3 := Lib.hid hst3; have p0 := (hst3.nth 3 rfl).celAt (i := 0) (v := .slice a n c) rfl; have fp := (hst3.nth 3 rfl).celFree 0; clear hst3))
    go_end0
    refine ⟨_, some ⟨g3, 0, none⟩, n3, cap3, rfl, HNEW.out, ?_⟩
    rw [HPE.out, List.map_append]
    exact (((HST3.out.pick (ρ := aCel g6 59 #[.slice a n c] :: aCel g5 188 #[.map (some gm)] :: aOwn 72 3 (.slice (some ⟨g3, 0, none⟩) n3 cap3) (out.map It.itV ++ [It.itV (x1, x2, x3)]) :: aMap 72 3 gm (m + 1) (M.put kl (.lit (.int .i64 cv))) :: μ) [3, 2, 0, 1] 4 rfl rfl).setCel 0 (.slice (some ⟨g3, 0, none⟩) n3 cap3))).pick [1, 0, 2, 3] 4 rfl rfl
end Go.Proofs.Ytkhjncbjdldpbaa

/-
  The order of items; slices.SortFunc over an own slice of items: by the kit's contract.
-/
namespace Go.Proofs.Ytkhjncbjdldpbaa
set_option linter.unusedVariables false
set_option linter.unusedSimpArgs false
open Go.ChangeShapes Go.WideShapes Go.ChangeAt Go.RowKit
open Go.Shelf Go.Lib Go.Sort

def It.sortItem_ren : Ren where
  f := fun x => match x with
    | 6 => 110
    | 15 => 124
    | 14 => 126
    | 28 => 139
    | 29 => 140
    | 20 => 141
    | 21 => 142
    | 22 => 143
    | 23 => 144
    | 24 => 145
    | 25 => 146
    | 26 => 147
    | 27 => 148
    | 46 => 155
    | 47 => 151
    | 48 => 152
    | 49 => 156
    | 50 => 157
    | 57 => 159
    | n => n
  t := fun x => match x with
    | 22 => 59
    | 24 => 72
    | 25 => 192
    | 3 => 3
    | 39 => 193
    | 0 => 0
    | 53 => 221
    | 55 => 130
    | 4 => 4
    | 46 => 215
    | 45 => 214
    | 50 => 165
    | 5 => 5
    | 9 => 9
    | 66 => 229
    | 70 => 106
    | 76 => 236
    | 77 => 237
    | n => n
  g := fun x => x
theorem It.sortItem : SlLaysF0.n6 Try.prog It.sortItem_ren where
  mixed := by kernel_rfl
  f6 := ⟨ "slices.SortFunc[[]pushmill/api.Item,pushmill/api.Item]", by decide, Try.func110.trans (congrArg some (by kernel_rfl))⟩
  f14 := ⟨ "slices.pdqsortCmpFunc[pushmill/api.Item]", by decide, Try.func126.trans (congrArg some (by kernel_rfl))⟩
  f15 := Try.func124.trans (congrArg some (by kernel_rfl))
  f20 := ⟨ "slices.insertionSortCmpFunc[pushmill/api.Item]", by decide, Try.func141.trans (congrArg some (by kernel_rfl))⟩
  f21 := ⟨ "slices.heapSortCmpFunc[pushmill/api.Item]", by decide, Try.func142.trans (congrArg some (by kernel_rfl))⟩
  f22 := ⟨ "slices.breakPatternsCmpFunc[pushmill/api.Item]", by decide, Try.func143.trans (congrArg some (by kernel_rfl))⟩
  f23 := ⟨ "slices.choosePivotCmpFunc[pushmill/api.Item]", by decide, Try.func144.trans (congrArg some (by kernel_rfl))⟩
  f24 := ⟨ "slices.reverseRangeCmpFunc[pushmill/api.Item]", by decide, Try.func145.trans (congrArg some (by kernel_rfl))⟩
  f25 := ⟨ "slices.partialInsertionSortCmpFunc[pushmill/api.Item]", by decide, Try.func146.trans (congrArg some (by kernel_rfl))⟩
  f26 := ⟨ "slices.partitionEqualCmpFunc[pushmill/api.Item]", by decide, Try.func147.trans (congrArg some (by kernel_rfl))⟩
  f27 := ⟨ "slices.partitionCmpFunc[pushmill/api.Item]", by decide, Try.func148.trans (congrArg some (by kernel_rfl))⟩
  f28 := Try.func139.trans (congrArg some (by kernel_rfl))
  f29 := Try.func140.trans (congrArg some (by kernel_rfl))
  f46 := ⟨ "slices.siftDownCmpFunc[pushmill/api.Item]", by decide, Try.func155.trans (congrArg some (by kernel_rfl))⟩
  f47 := Try.func151.trans (congrArg some (by kernel_rfl))
  f48 := Try.func152.trans (congrArg some (by kernel_rfl))
  f49 := ⟨ "slices.medianAdjacentCmpFunc[pushmill/api.Item]", by decide, Try.func156.trans (congrArg some (by kernel_rfl))⟩
  f50 := ⟨ "slices.medianCmpFunc[pushmill/api.Item]", by decide, Try.func157.trans (congrArg some (by kernel_rfl))⟩
  f57 := ⟨ "slices.order2CmpFunc[pushmill/api.Item]", by decide, Try.func159.trans (congrArg some (by kernel_rfl))⟩
  t0 := Try.underlying0
  a0 := Try.isAgg0
  z0 := Try.sizeOf0
  v0 := Try.zeroValue0
  t3 := Try.underlying3
  a3 := Try.isAgg3
  z3 := Try.sizeOf3
  v3 := Try.zeroValue3
  t4 := Try.underlying4
  a4 := Try.isAgg4
  z4 := Try.sizeOf4
  v4 := Try.zeroValue4
  t5 := Try.underlying5
  a5 := Try.isAgg5
  z5 := Try.sizeOf5
  v5 := Try.zeroValue5
  t9 := Try.underlying9
  a9 := Try.isAgg9
  z9 := Try.sizeOf9
  v9 := Try.zeroValue9
  t22 := Try.underlying59
  a22 := Try.isAgg59
  z22 := Try.sizeOf59
  v22 := Try.zeroValue59
  t25 := Try.underlying192
  a25 := Try.isAgg192
  z25 := Try.sizeOf192
  v25 := Try.zeroValue192
  t39 := Try.underlying193
  a39 := Try.isAgg193
  z39 := Try.sizeOf193
  v39 := Try.zeroValue193
  t45 := Try.underlying214
  a45 := Try.isAgg214
  z45 := Try.sizeOf214
  v45 := Try.zeroValue214
  t46 := Try.underlying215
  a46 := Try.isAgg215
  z46 := Try.sizeOf215
  v46 := Try.zeroValue215
  t50 := Try.underlying165
  a50 := Try.isAgg165
  z50 := Try.sizeOf165
  v50 := Try.zeroValue165
  t53 := Try.underlying221
  a53 := Try.isAgg221
  z53 := Try.sizeOf221
  v53 := Try.zeroValue221
  t55 := Try.underlying130
  a55 := Try.isAgg130
  z55 := Try.sizeOf130
  v55 := Try.zeroValue130
  t66 := Try.underlying229
  a66 := Try.isAgg229
  z66 := Try.sizeOf229
  v66 := Try.zeroValue229
  t70 := Try.underlying106
  a70 := Try.isAgg106
  z70 := Try.sizeOf106
  v70 := Try.zeroValue106
  t76 := Try.underlying236
  a76 := Try.isAgg236
  z76 := Try.sizeOf236
  v76 := Try.zeroValue236
  t77 := Try.underlying237
  a77 := Try.isAgg237
  z77 := Try.sizeOf237
  v77 := Try.zeroValue237

namespace It
/-- One of three: which is less. -/
def cmp3 (x y : Int) : Int := if x < y then -1 else if y < x then 1 else 0
def or3 (a b c : Int) : Int := if a ≠ 0 then a else if b ≠ 0 then b else c
def ord (x y : I) : Int := or3 (cmp3 x.1 y.1) (cmp3 x.2.1 y.2.1) (cmp3 x.2.2 y.2.2)
theorem ltOf_ord (x y : I) : ltOf ord x y = lt x y := by
  rw [Bool.eq_iff_iff, lt_iff]
  unfold ltOf ord or3 cmp3
  rw [decide_eq_true_iff]
  split <;> split <;> (try split) <;> (try split) <;> (try split) <;> (try split) <;> (try split) <;> omega
theorem swo : SWO (ltOf ord) where
  irrefl x := by rw [ltOf_ord]; exact lt_irr x
  trans x y z h1 h2 := by rw [ltOf_ord] at *; exact lt_trans h1 h2
  ntrans x y z h1 h2 := by rw [ltOf_ord] at *; exact lt_ntrans h1 h2
def enc3 (x : I) : List Value := [.int .i64 x.1, .int .i64 x.2.1, .int .i64 x.2.2]
end It

set_option maxRecDepth 100000 in
theorem cmpCompare_any (x y : Int) (w : World) : Calls Try.prog 128 #[.int .i64 x, .int .i64 y] w fun e w' => e = .returned (.int .i64 (It.cmp3 x y)) ∧ w' = w := by
  unfold It.cmp3
  by_cases h : x < y
  · rw [if_pos h]
    go_enter Try.func128, Try.ntmps128
    go_wp2
    go_ret
    exact ⟨rfl, rfl⟩
  · rw [if_neg h]
    by_cases h2 : y < x
    · rw [if_pos h2]
      go_enter Try.func128, Try.ntmps128
      go_wp2
      go_ret
      exact ⟨rfl, rfl⟩
    · rw [if_neg h2]
      go_enter Try.func128, Try.ntmps128
      go_wp2
      go_ret
      exact ⟨rfl, rfl⟩

set_option maxRecDepth 100000 in
theorem cmpOr_any (a b c : Int) (g : Nat) (w : World) (h0 : w.cell? ⟨g, 0, none⟩ = some (.int .i64 a)) (h1 : w.cell? ⟨g, 1, none⟩ = some (.int .i64 b)) (h2 : w.cell? ⟨g, 2, none⟩ = some (.int .i64 c)) :
    Calls Try.prog 127 #[.slice (some ⟨g, 0, none⟩) 3 3] w fun e w' => e = .returned (.int .i64 (It.or3 a b c)) ∧ w' = w := by
  unfold It.or3
  have e : ∀ x : Int, ¬ x ≠ 0 → (x != 0) = false := fun x h => by rw [bne_eq_false_iff_eq]; omega
  have e' : ∀ x : Int, x ≠ 0 → (x != 0) = true := fun x h => by rw [bne_iff_ne]; exact h
  by_cases ha : a ≠ 0
  · rw [if_pos ha]
    have q := e' a ha
    clear e e' ha
    go_enter Try.func127, Try.ntmps127
    go_wp2
    go_rounds 4
    all_goals (go_ret; exact ⟨rfl, rfl⟩)
  · rw [if_neg ha]
    have qa := e a ha
    by_cases hb : b ≠ 0
    · rw [if_pos hb]
      have q := e' b hb
      clear e e' hb ha
      go_enter Try.func127, Try.ntmps127
      go_wp2
      go_rounds 4
      all_goals (go_ret; exact ⟨rfl, rfl⟩)
    · rw [if_neg hb]
      have qb := e b hb
      by_cases hc : c ≠ 0
      · have q := e' c hc
        clear e e' hb ha hc
        go_enter Try.func127, Try.ntmps127
        go_wp2
        go_rounds 4
        all_goals (go_ret; exact ⟨rfl, rfl⟩)
      · have q := e c hc
        obtain rfl : c = 0 := by omega
        clear e e' hb ha hc
        go_enter Try.func127, Try.ntmps127
        go_wp2
        go_rounds 4
        all_goals (go_ret; exact ⟨rfl, rfl⟩)

set_option maxRecDepth 100000 in
theorem itOrder_any (x y : It.I) (w : World) : Calls Try.prog 111 #[It.itV x, It.itV y] w fun e w' => e = .returned (.int .i64 (It.ord x y)) ∧ ∃ q os', w' = grow (w.drewN q) os' := by
  have hst := ((St.init w).alloc #[.int .i64 x.1, .int .i64 x.2.1, .int .i64 x.2.2] 72).alloc #[.int .i64 y.1, .int .i64 y.2.1, .int .i64 y.2.2] 72
  obtain ⟨x1, x2, x3⟩ := x
  obtain ⟨y1, y2, y3⟩ := y
  simp only [World.size_alloc] at hst
  have a := hst.at3 1 rfl
  have b := hst.at3 0 rfl
  obtain ⟨a0, a1, a2⟩ := a
  obtain ⟨b0, b1, b2⟩ := b
  have hst2 := hst.alloc #[.int .i64 (It.cmp3 x1 y1), .int .i64 (It.cmp3 x2 y2), .int .i64 (It.cmp3 x3 y3)] 3
  have C1 := fun W => cmpCompare_any x1 y1 W
  have C2 := fun W => cmpCompare_any x2 y2 W
  have C3 := fun W => cmpCompare_any x3 y3 W
  unfold It.ord It.itV
  simp only
  generalize It.cmp3 x1 y1 = r1 at *
  generalize It.cmp3 x2 y2 = r2 at *
  generalize It.cmp3 x3 y3 = r3 at *
  have d := hst2.at3 0 rfl
  obtain ⟨d0, d1, d2⟩ := d
  have C4 := Lib.hid (fun W h0 h1 h2 => cmpOr_any r1 r2 r3 ((w.alloc (.cells #[.int .i64 x1, .int .i64 x2, .int .i64 x3] 72)).alloc (.cells #[.int .i64 y1, .int .i64 y2, .int .i64 y3] 72)).heap.size W h0 h1 h2)
  simp only [World.size_alloc] at C4 d0 d1 d2
  replace C1 := Lib.hid C1; replace C2 := Lib.hid C2; replace C3 := Lib.hid C3
  clear hst hst2
  go_enter Try.func111, Try.ntmps111
  go_wp2_with (fail)
  refine wp_region_held_drew (S := (fun w' => w'.cell? ⟨w.heap.size, 0, none⟩ = some (.int .i64 x1) ∧ w'.cell? ⟨w.heap.size, 1, none⟩ = some (.int .i64 x2) ∧ w'.cell? ⟨w.heap.size, 2, none⟩ = some (.int .i64 x3) ∧ w'.cell? ⟨w.heap.size + 1, 0, none⟩ = some (.int .i64 y1) ∧ w'.cell? ⟨w.heap.size + 1, 1, none⟩ = some (.int .i64 y2) ∧ w'.cell? ⟨w.heap.size + 1, 2, none⟩ = some (.int .i64 y3))) (by kernel_rfl) ?_ (fun hHeld => ?_)
  · (try dsimp only); (first | exact ⟨a0, a1, a2, b0, b1, b2⟩ | (refine ⟨?_, ?_, ?_, ?_, ?_, ?_⟩ <;> exact bkeep ((Below.refl _ _).alloc (Nat.le_refl _) _) (by assumption)))

  refine wpAnyH_take (i := 0) (v := ?_) rfl (by kernel_rfl) (by kernel_rfl) (by kernel_rfl) (fun _ _ _ h => h) (Or.inl ⟨by rfl, ?_⟩) (by assumption) ?_
  rotate_left; focus (intro w hSw; (try dsimp only at hSw); go_simp; try (with_reducible rfl); done)
  try simp only [List.getElem_toArray, List.getElem_cons_zero, List.getElem_cons_succ, Act.put, List.setIfInBounds_toArray, List.set_cons_zero, List.set_cons_succ]
  refine wpAnyH_take (i := 1) (v := ?_) rfl (by kernel_rfl) (by kernel_rfl) (by kernel_rfl) (fun _ _ _ h => h) (Or.inl ⟨by rfl, ?_⟩) (by assumption) ?_
  rotate_left; focus (intro w hSw; (try dsimp only at hSw); go_simp; try (with_reducible rfl); done)
  try simp only [List.getElem_toArray, List.getElem_cons_zero, List.getElem_cons_succ, Act.put, List.setIfInBounds_toArray, List.set_cons_zero, List.set_cons_succ]
  refine wpAnyH_take (i := 2) (v := ?_) rfl (by kernel_rfl) (by kernel_rfl) (by kernel_rfl) (fun _ _ _ h => h) (Or.inl ⟨by rfl, ?_⟩) (by assumption) ?_
  rotate_left; focus (intro w hSw; (try dsimp only at hSw); go_simp; try (with_reducible rfl); done)
  try simp only [List.getElem_toArray, List.getElem_cons_zero, List.getElem_cons_succ, Act.put, List.setIfInBounds_toArray, List.set_cons_zero, List.set_cons_succ]
  refine wpAnyH_take (i := 3) (v := ?_) rfl (by kernel_rfl) (by kernel_rfl) (by kernel_rfl) (fun _ _ _ h => h) (Or.inl ⟨by rfl, ?_⟩) (by assumption) ?_
  rotate_left; focus (intro w hSw; (try dsimp only at hSw); go_simp; try (with_reducible rfl); done)
  try simp only [List.getElem_toArray, List.getElem_cons_zero, List.getElem_cons_succ, Act.put, List.setIfInBounds_toArray, List.set_cons_zero, List.set_cons_succ]
  refine wpAnyH_take (i := 5) (v := ?_) rfl (by kernel_rfl) (by kernel_rfl) (by kernel_rfl) (fun _ _ _ h => h) (Or.inl ⟨by rfl, ?_⟩) (by assumption) ?_
  rotate_left; focus (intro w hSw; (try dsimp only at hSw); go_simp; try (with_reducible rfl); done)
  try simp only [List.getElem_toArray, List.getElem_cons_zero, List.getElem_cons_succ, Act.put, List.setIfInBounds_toArray, List.set_cons_zero, List.set_cons_succ]
  refine wpAnyH_take (i := 6) (v := ?_) rfl (by kernel_rfl) (by kernel_rfl) (by kernel_rfl) (fun _ _ _ h => h) (Or.inl ⟨by rfl, ?_⟩) (by assumption) ?_
  rotate_left; focus (intro w hSw; (try dsimp only at hSw); go_simp; try (with_reducible rfl); done)
  try simp only [List.getElem_toArray, List.getElem_cons_zero, List.getElem_cons_succ, Act.put, List.setIfInBounds_toArray, List.set_cons_zero, List.set_cons_succ]
  refine wpAnyH_take (i := 7) (v := ?_) rfl (by kernel_rfl) (by kernel_rfl) (by kernel_rfl) (fun _ _ _ h => h) (Or.inl ⟨by rfl, ?_⟩) (by assumption) ?_
  rotate_left; focus (intro w hSw; (try dsimp only at hSw); go_simp; try (with_reducible rfl); done)
  try simp only [List.getElem_toArray, List.getElem_cons_zero, List.getElem_cons_succ, Act.put, List.setIfInBounds_toArray, List.set_cons_zero, List.set_cons_succ]
  refine wpAnyH_take (i := 8) (v := ?_) rfl (by kernel_rfl) (by kernel_rfl) (by kernel_rfl) (fun _ _ _ h => h) (Or.inl ⟨by rfl, ?_⟩) (by assumption) ?_
  rotate_left; focus (intro w hSw; (try dsimp only at hSw); go_simp; try (with_reducible rfl); done)
  try simp only [List.getElem_toArray, List.getElem_cons_zero, List.getElem_cons_succ, Act.put, List.setIfInBounds_toArray, List.set_cons_zero, List.set_cons_succ]
  refine wpAnyH_take (i := 10) (v := ?_) rfl (by kernel_rfl) (by kernel_rfl) (by kernel_rfl) (fun _ _ _ h => h) (Or.inl ⟨by rfl, ?_⟩) (by assumption) ?_
  rotate_left; focus (intro w hSw; (try dsimp only at hSw); go_simp; try (with_reducible rfl); done)
  try simp only [List.getElem_toArray, List.getElem_cons_zero, List.getElem_cons_succ, Act.put, List.setIfInBounds_toArray, List.set_cons_zero, List.set_cons_succ]
  refine wpAnyH_take (i := 11) (v := ?_) rfl (by kernel_rfl) (by kernel_rfl) (by kernel_rfl) (fun _ _ _ h => h) (Or.inl ⟨by rfl, ?_⟩) (by assumption) ?_
  rotate_left; focus (intro w hSw; (try dsimp only at hSw); go_simp; try (with_reducible rfl); done)
  try simp only [List.getElem_toArray, List.getElem_cons_zero, List.getElem_cons_succ, Act.put, List.setIfInBounds_toArray, List.set_cons_zero, List.set_cons_succ]
  refine wpAnyH_take (i := 12) (v := ?_) rfl (by kernel_rfl) (by kernel_rfl) (by kernel_rfl) (fun _ _ _ h => h) (Or.inl ⟨by rfl, ?_⟩) (by assumption) ?_
  rotate_left; focus (intro w hSw; (try dsimp only at hSw); go_simp; try (with_reducible rfl); done)
  try simp only [List.getElem_toArray, List.getElem_cons_zero, List.getElem_cons_succ, Act.put, List.setIfInBounds_toArray, List.set_cons_zero, List.set_cons_succ]
  refine wpAnyH_take (i := 13) (v := ?_) rfl (by kernel_rfl) (by kernel_rfl) (by kernel_rfl) (fun _ _ _ h => h) (Or.inl ⟨by rfl, ?_⟩) (by assumption) ?_
  rotate_left; focus (intro w hSw; (try dsimp only at hSw); go_simp; try (with_reducible rfl); done)
  try simp only [List.getElem_toArray, List.getElem_cons_zero, List.getElem_cons_succ, Act.put, List.setIfInBounds_toArray, List.set_cons_zero, List.set_cons_succ]
  refine wpAnyH_ready (rs := [4]) (by kernel_rfl) (by simp) ?_
  refine AllReadyH.cons rfl (fun K hK => ?_) AllReadyH.nil
  go_simp
  (go_at_call 128; refine (C1.out _).mono ?_; rintro e w5 ⟨rfl, rfl⟩)
  refine hK.out _ _ ?_ (fun hHeld => ?_)
  · (try dsimp only); (first | exact ⟨a0, a1, a2, b0, b1, b2⟩ | (refine ⟨?_, ?_, ?_, ?_, ?_, ?_⟩ <;> exact bkeep ((Below.refl _ _).alloc (Nat.le_refl _) _) (by assumption)))
  clear hK K
  try simp only [List.getElem_toArray, List.getElem_cons_zero, List.getElem_cons_succ, Act.put, List.setIfInBounds_toArray, List.set_cons_zero, List.set_cons_succ]
  refine wpAnyH_ready (rs := [9]) (by kernel_rfl) (by simp) ?_
  refine AllReadyH.cons rfl (fun K hK => ?_) AllReadyH.nil
  go_simp
  (go_at_call 128; refine (C2.out _).mono ?_; rintro e w5 ⟨rfl, rfl⟩)
  refine hK.out _ _ ?_ (fun hHeld => ?_)
  · (try dsimp only); (first | exact ⟨a0, a1, a2, b0, b1, b2⟩ | (refine ⟨?_, ?_, ?_, ?_, ?_, ?_⟩ <;> exact bkeep ((Below.refl _ _).alloc (Nat.le_refl _) _) (by assumption)))
  clear hK K
  try simp only [List.getElem_toArray, List.getElem_cons_zero, List.getElem_cons_succ, Act.put, List.setIfInBounds_toArray, List.set_cons_zero, List.set_cons_succ]
  refine wpAnyH_ready (rs := [14]) (by kernel_rfl) (by simp) ?_
  refine AllReadyH.cons rfl (fun K hK => ?_) AllReadyH.nil
  go_simp
  (go_at_call 128; refine (C3.out _).mono ?_; rintro e w5 ⟨rfl, rfl⟩)
  refine hK.out _ _ ?_ (fun hHeld => ?_)
  · (try dsimp only); (first | exact ⟨a0, a1, a2, b0, b1, b2⟩ | (refine ⟨?_, ?_, ?_, ?_, ?_, ?_⟩ <;> exact bkeep ((Below.refl _ _).alloc (Nat.le_refl _) _) (by assumption)))
  clear hK K
  try simp only [List.getElem_toArray, List.getElem_cons_zero, List.getElem_cons_succ, Act.put, List.setIfInBounds_toArray, List.set_cons_zero, List.set_cons_succ]
  refine wpAnyH_ready (rs := [15]) (by kernel_rfl) (by simp) ?_
  refine AllReadyH.cons rfl (fun K hK => ?_) AllReadyH.nil
  go_simp
  refine hK.out _ _ ?_ (fun hHeld => ?_)
  · (try dsimp only); (first | exact ⟨a0, a1, a2, b0, b1, b2⟩ | (refine ⟨?_, ?_, ?_, ?_, ?_, ?_⟩ <;> exact bkeep ((Below.refl _ _).alloc (Nat.le_refl _) _) (by assumption)))
  clear hK K
  try simp only [List.getElem_toArray, List.getElem_cons_zero, List.getElem_cons_succ, Act.put, List.setIfInBounds_toArray, List.set_cons_zero, List.set_cons_succ]
  refine wpAnyH_ready (rs := [16]) (by kernel_rfl) (by simp) ?_
  refine AllReadyH.cons rfl (fun K hK => ?_) AllReadyH.nil
  go_simp
  (go_at_call 127; refine Calls.mono (C4.out _ (by exact d0) (by exact d1) (by exact d2)) ?_; rintro e w5 ⟨rfl, rfl⟩)
  refine hK.out _ _ ?_ (fun hHeld => ?_)
  · (try dsimp only); (first | exact ⟨a0, a1, a2, b0, b1, b2⟩ | (refine ⟨?_, ?_, ?_, ?_, ?_, ?_⟩ <;> exact bkeep ((Below.refl _ _).alloc (Nat.le_refl _) _) (by assumption)))
  clear hK K
  try simp only [List.getElem_toArray, List.getElem_cons_zero, List.getElem_cons_succ, Act.put, List.setIfInBounds_toArray, List.set_cons_zero, List.set_cons_succ]
  refine wpAnyH_take (i := 17) (v := ?_) rfl (by kernel_rfl) (by kernel_rfl) (by kernel_rfl) (fun _ _ _ h => h) (Or.inl ⟨by rfl, ?_⟩) (by assumption) ?_
  rotate_left; focus (intro w hSw; (try dsimp only at hSw); go_simp; try (with_reducible rfl); done)
  try simp only [List.getElem_toArray, List.getElem_cons_zero, List.getElem_cons_succ, Act.put, List.setIfInBounds_toArray, List.set_cons_zero, List.set_cons_succ]
  refine wpAnyH_done (by kernel_rfl) ?_ _
  go_wp2
  go_ret
  exact ⟨rfl, 1, #[.cells #[.int .i64 x1, .int .i64 x2, .int .i64 x3] 72, .cells #[.int .i64 y1, .int .i64 y2, .int .i64 y3] 72, .cells #[.int .i64 r1, .int .i64 r2, .int .i64 r3] 3], by simp only [alloc_eq_grow, grow_grow]; rfl⟩
end Go.Proofs.Ytkhjncbjdldpbaa

/-
  A table as data; what is wrong with it: lr.Check and RightTable of the reference.
-/
namespace Go.Proofs.Ytkhjncbjdldpbaa
set_option linter.unusedVariables false
open Go.ChangeShapes Go.WideShapes Go.ChangeAt Go.RowKit

/-- A slice of slices. -/
theorem slSl {α : Type} {E : Enc α} {b1 b2 : Nat} {F : Nat → Prop} {w : World} {v : Value} {l : List (List α)} (h : ((E.sl b1).sl b2).R F w [v] l) :
    ∃ (ao : Option Addr) (b off cap : Nat), v = .slice ao l.length cap ∧ (l.length : Int) * b2 ≤ 140737488355328 ∧ (0 < l.length → ao = some ⟨b, off, none⟩ ∧ b < w.heap.size ∧ F b) ∧
      ∀ i, i < l.length → ∃ ai ci, w.cell? ⟨b, off + i, none⟩ = some (.slice ai (l.getD i []).length ci) ∧ (E.sl b1).R F w [.slice ai (l.getD i []).length ci] (l.getD i []) := by
  obtain ⟨ao, b, off, cap, h0, h1, h2, h3⟩ := Enc.slN [] h
  refine ⟨ao, b, off, cap, h0, h1, h2, fun i hi => ?_⟩
  obtain ⟨cs, _, g2, g3⟩ := h3 i hi
  have g4 := g3
  obtain ⟨ai, _, _, ci, rfl, _⟩ := g4
  refine ⟨ai, ci, ?_, g3⟩
  have := g2 0 (by show 0 < 1; decide)
  simpa [Enc.sl] using this

namespace Tb
def right (t : Int) (np m : Nat) (x : Int × Int) (c : Int) : Bool :=
  decide (x.1 = 0 ∧ x.2 = 0) || decide (x.1 = 1 ∧ c < t ∧ 0 ≤ x.2 ∧ x.2 < m) || decide (x.1 = 2 ∧ 0 ≤ x.2 ∧ x.2 < np) || decide (x.1 = 3 ∧ x.2 = 0 ∧ c = t)
theorem right_iff {t : Int} {np m : Nat} {x : Int × Int} {c : Int} : right t np m x c = true ↔ (x.1 = 0 ∧ x.2 = 0) ∨ (x.1 = 1 ∧ c < t ∧ 0 ≤ x.2 ∧ x.2 < m) ∨ (x.1 = 2 ∧ 0 ≤ x.2 ∧ x.2 < np) ∨ (x.1 = 3 ∧ x.2 = 0 ∧ c = t) := by
  simp only [right, Bool.or_eq_true, decide_eq_true_eq, or_assoc]
theorem right_no {t : Int} {np m : Nat} {x : Int × Int} {c : Int} (h : ¬ ((x.1 = 0 ∧ x.2 = 0) ∨ (x.1 = 1 ∧ c < t ∧ 0 ≤ x.2 ∧ x.2 < m) ∨ (x.1 = 2 ∧ 0 ≤ x.2 ∧ x.2 < np) ∨ (x.1 = 3 ∧ x.2 = 0 ∧ c = t))) : right t np m x c = false := by
  cases hr : right t np m x c
  · rfl
  · exact absurd (right_iff.1 hr) h
def rowGood (t : Int) (np m : Nat) (row : List (Int × Int)) : Prop := ∀ c, c < row.length → right t np m (row.getD c (0, 0)) c = true
def goGood (m : Nat) (row : List Int) : Prop := ∀ c, c < row.length → -1 ≤ row.getD c 0 ∧ row.getD c 0 < m
def At (t n : Int) (np m : Nat) (a : List (Int × Int)) (g : List Int) : Prop := (a.length : Int) = t + 1 ∧ (g.length : Int) = n ∧ rowGood t np m a ∧ goGood m g
def Good (t n : Int) (np : Nat) (acts : List (List (Int × Int))) (gts : List (List Int)) : Prop := ∀ i, i < acts.length → At t n np acts.length (acts.getD i []) (gts.getD i [])
open Classical in
noncomputable def err (t n : Int) (np : Nat) (acts : List (List (Int × Int))) (gts : List (List Int)) : Int :=
  if 200 < acts.length then 2 else if acts.length = 0 ∨ gts.length ≠ acts.length then 1 else if Good t n np acts gts then 0 else 1
theorem err_large {t n np acts gts} (h : 200 < acts.length) : err t n np acts gts = 2 := by rw [err, if_pos h]
theorem err_arg {t n np acts gts} (h : ¬ 200 < acts.length) (h1 : acts.length = 0 ∨ gts.length ≠ acts.length) : err t n np acts gts = 1 := by rw [err, if_neg h, if_pos h1]
theorem err_bad {t n np acts gts} (h : ¬ 200 < acts.length) (h1 : ¬ Good t n np acts gts) : err t n np acts gts = 1 := by
  rw [err, if_neg h]
  by_cases h2 : acts.length = 0 ∨ gts.length ≠ acts.length
  · rw [if_pos h2]
  · rw [if_neg h2, if_neg h1]
theorem err_ok {t n np acts gts} (h : ¬ 200 < acts.length) (h1 : ¬ (acts.length = 0 ∨ gts.length ≠ acts.length)) (h2 : Good t n np acts gts) : err t n np acts gts = 0 := by rw [err, if_neg h, if_neg h1, if_pos h2]
end Tb
attribute [irreducible] Tb.right Tb.err


end Go.Proofs.Ytkhjncbjdldpbaa

/-
  ll.Check: what is wrong with a table of rows.
-/
namespace Go.Proofs.Ytkhjncbjdldpbaa
set_option linter.unusedVariables false
open Go.ChangeShapes Go.WideShapes Go.ChangeAt Go.RowKit

namespace Rw
def good (l : List (Int × List (Int × Int))) (p : Int) (k : Nat) : Prop := -1 ≤ p ∧ p < l.length ∧ (0 ≤ p → (l.getD p.toNat (0, [])).1 = k)
def At (t : Int) (l : List (Int × List (Int × Int))) (row : List Int) (k : Nat) : Prop := (row.length : Int) = t + 1 ∧ ∀ c, c < row.length → good l (row.getD c 0) k
def Good (t : Int) (l : List (Int × List (Int × Int))) (rows : List (List Int)) : Prop := ∀ k, k < rows.length → At t l (rows.getD k []) k
open Classical in
noncomputable def err (t n : Int) (l : List (Int × List (Int × Int))) (rows : List (List Int)) : Int :=
  if (rows.length : Int) ≠ n then 1 else if Good t l rows then 0 else 1
theorem err_len {t n l rows} (h : (rows.length : Int) ≠ n) : err t n l rows = 1 := by rw [err, if_pos h]
theorem err_bad {t n l rows} (h : ¬ Good t l rows) : err t n l rows = 1 := by
  rw [err]
  by_cases h2 : (rows.length : Int) ≠ n
  · rw [if_pos h2]
  · rw [if_neg h2, if_neg h]
theorem err_ok {t n l rows} (h : (rows.length : Int) = n) (h2 : Good t l rows) : err t n l rows = 0 := by rw [err, if_neg (by omega), if_pos h2]
open Classical in
noncomputable def all (t n : Int) (l : List (Int × List (Int × Int))) (rows : List (List Int)) : Int := if Gr.err t n l ≠ 0 then Gr.err t n l else err t n l rows
theorem all_ne {t n l rows} (h : Gr.err t n l ≠ 0) : all t n l rows = Gr.err t n l := by rw [all, if_pos h]
theorem all_go {t n l rows} (h : Gr.err t n l = 0) : all t n l rows = err t n l rows := by rw [all, if_neg (by omega)]
end Rw
attribute [irreducible] Rw.err Rw.all

end Go.Proofs.Ytkhjncbjdldpbaa

/-
  What one who climbs has ahead, as plain data; what a column does to it. (Plain functions; nothing of the program is claimed.)
-/
namespace Go.Proofs.Ytkhjncbjdldpbaa
set_option linter.unusedVariables false

namespace Cl
/-- Close, N, the symbol's kind and number. -/
abbrev T := Bool × Int × Int × Int
def good (t n : Int) (np : Nat) (x : T) : Bool := if x.1 = true then decide (0 ≤ x.2.1 ∧ x.2.1 < np ∧ x.2.2.1 = 0 ∧ x.2.2.2 = 0) else decide (x.2.1 = 0) && Gr.right t n x.2.2
/-- The ends that are next go (the next one first); none: too many acts. -/
def clo : List T → List (Int × Int) → Option (List T × List (Int × Int))
  | [], o => some ([], o)
  | x :: r, o => if x.1 = true then (if 2000 ≤ o.length then none else clo r (o ++ [(3, x.2.1)])) else some (x :: r, o)
/-- A production in the place of what is next. -/
def put (ps : List (Int × List (Int × Int))) (p : Nat) (r : List T) : List T := ((ps.getD p (0, [])).2.map fun s => (false, 0, s.1, s.2)) ++ (true, (p : Int), 0, 0) :: r
/-- On till a terminal, or nothing, is ahead: error, what is ahead, events. -/
def dn (ps : List (Int × List (Int × Int))) (rows : List (List Int)) (c : Nat) : Nat → List T → List (Int × Int) → Int × List T × List (Int × Int)
  | 0, _, _ => (14, [], [])
  | f + 1, a, o => match clo a o with
    | none => (14, [], [])
    | some ([], o') => (0, [], o')
    | some (x :: r, o') =>
      if x.2.2.1 = 1 then (0, x :: r, o')
      else if (rows.getD x.2.2.2.toNat []).getD c 0 < 0 then (13, [], [])
      else if 2000 ≤ o'.length ∨ 60 < (put ps ((rows.getD x.2.2.2.toNat []).getD c 0).toNat r).length then (14, [], [])
      else dn ps rows c f (put ps ((rows.getD x.2.2.2.toNat []).getD c 0).toNat r) (o' ++ [(1, (rows.getD x.2.2.2.toNat []).getD c 0)])
/-- Behind the way down: a token; the end. -/
def tok (c : Nat) (seen : Int) : List T → List (Int × Int) → Int × List T × List (Int × Int)
  | [], _ => (13, [], [])
  | x :: r, o => if x.2.2.2 ≠ c then (13, [], []) else if 2000 ≤ o.length then (14, [], []) else match clo r (o ++ [(2, seen)]) with
    | none => (14, [], [])
    | some y => (0, y.1, y.2)
def push (ps : List (Int × List (Int × Int))) (rows : List (List Int)) (c : Nat) (seen : Int) (a : List T) : Int × List T × List (Int × Int) :=
  if (dn ps rows c 2001 a []).1 ≠ 0 then ((dn ps rows c 2001 a []).1, [], []) else tok c seen (dn ps rows c 2001 a []).2.1 (dn ps rows c 2001 a []).2.2
def ending (ps : List (Int × List (Int × Int))) (rows : List (List Int)) (c : Nat) (a : List T) : Int × List T × List (Int × Int) :=
  if (dn ps rows c 2001 a []).1 ≠ 0 then ((dn ps rows c 2001 a []).1, [], []) else if (dn ps rows c 2001 a []).2.1 ≠ [] then (13, [], []) else (0, [], (dn ps rows c 2001 a []).2.2)
/-- The reference's loop, an act a step. -/
def go (ps : List (Int × List (Int × Int))) (rows : List (List Int)) (c : Nat) (last : Bool) (seen : Int) : Nat → Bool → List T → List (Int × Int) → Int × List T × List (Int × Int)
  | 0, _, _, _ => (14, [], [])
  | f + 1, had, a, o =>
    if 2000 < o.length ∨ 60 < a.length then (14, [], [])
    else match a with
    | [] => if had = true then (0, [], o) else if last = true then (0, [], o) else (13, [], [])
    | x :: r =>
      if x.1 = true then go ps rows c last seen f had r (o ++ [(3, x.2.1)])
      else if had = true then (0, x :: r, o)
      else if x.2.2.1 = 1 then (if x.2.2.2 ≠ c then (13, [], []) else go ps rows c last seen f true r (o ++ [(2, seen)]))
      else if (rows.getD x.2.2.2.toNat []).getD c 0 < 0 then (13, [], [])
      else go ps rows c last seen f had (put ps ((rows.getD x.2.2.2.toNat []).getD c 0).toNat r) (o ++ [(1, (rows.getD x.2.2.2.toNat []).getD c 0)])
section
variable {ps : List (Int × List (Int × Int))} {rows : List (List Int)} {c : Nat} {last : Bool} {seen : Int}
theorem go_over {f had a o} (h : 2000 < o.length ∨ 60 < a.length) : go ps rows c last seen f had a o = (14, [], []) := by
  cases f with
  | zero => rfl
  | succ f => cases a <;> rw [go, if_pos h]
theorem clo_len (a : List T) : ∀ (o a' : _) (o' : List (Int × Int)), clo a o = some (a', o') → o.length ≤ o'.length := by
  induction a with
  | nil => intro o a' o' h; cases h; exact Nat.le_refl _
  | cons x r ih =>
    intro o a' o' h
    rw [clo] at h
    split at h
    · split at h
      · cases h
      · have := ih _ _ _ h
        rw [List.length_append, List.length_singleton] at this
        omega
    · cases h; exact Nat.le_refl _
theorem clo_go (a : List T) : ∀ (o : List (Int × Int)) (f : Nat) (had : Bool), a.length ≤ 60 → o.length ≤ 2000 → 2002 ≤ f + o.length →
    (clo a o = none → go ps rows c last seen f had a o = (14, [], [])) ∧
    ∀ a' o', clo a o = some (a', o') → ∃ f', 2002 ≤ f' + o'.length ∧ o'.length ≤ 2000 ∧ a'.length ≤ a.length ∧ go ps rows c last seen f had a o = go ps rows c last seen f' had a' o' ∧ (∀ x r, a' = x :: r → x.1 = false) := by
  induction a with
  | nil =>
    intro o f had h1 h2 h3
    refine ⟨(fun h => by cases h), fun a' o' h => ?_⟩
    cases h
    exact ⟨f, h3, h2, Nat.le_refl _, rfl, (fun x r h => by cases h)⟩
  | cons x r ih =>
    intro o f had h1 h2 h3
    rw [List.length_cons] at h1
    cases hx : x.1
    · rw [clo, if_neg (by simp [hx])]
      refine ⟨(fun h => by cases h), fun a' o' h => ?_⟩
      cases h
      exact ⟨f, h3, h2, Nat.le_refl _, rfl, fun y q h => by cases h; exact hx⟩
    · obtain ⟨f, rfl⟩ : ∃ g, f = g + 1 := ⟨f - 1, by omega⟩
      have hgo : go ps rows c last seen (f + 1) had (x :: r) o = go ps rows c last seen f had r (o ++ [(3, x.2.1)]) := by
        rw [go, if_neg (by rw [List.length_cons]; omega)]
        simp only [hx, if_true]
      rw [clo, if_pos hx, hgo]
      by_cases h4 : 2000 ≤ o.length
      · rw [if_pos h4]
        exact ⟨fun _ => go_over (.inl (by rw [List.length_append, List.length_singleton]; omega)), fun a' o' h => by cases h⟩
      · rw [if_neg h4]
        obtain ⟨i1, i2⟩ := ih (o ++ [(3, x.2.1)]) f had (by omega) (by rw [List.length_append, List.length_singleton]; omega) (by rw [List.length_append, List.length_singleton]; omega)
        refine ⟨i1, fun a' o' h => ?_⟩
        obtain ⟨f', j1, j2, j3, j4, j5⟩ := i2 a' o' h
        exact ⟨f', j1, j2, by rw [List.length_cons]; omega, j4, j5⟩
/-- A step of the loop at something that is no end. -/
theorem go_kid {f : Nat} {x : T} {r : List T} {o : List (Int × Int)} (h1 : ¬ (2000 < o.length ∨ 60 < (x :: r).length)) (hx : x.1 = false) (hk : x.2.2.1 ≠ 1) :
    go ps rows c last seen (f + 1) false (x :: r) o = if (rows.getD x.2.2.2.toNat []).getD c 0 < 0 then (13, [], []) else go ps rows c last seen f false (put ps ((rows.getD x.2.2.2.toNat []).getD c 0).toNat r) (o ++ [(1, (rows.getD x.2.2.2.toNat []).getD c 0)]) := by
  rw [go, if_neg h1]
  simp only [hx, Bool.false_eq_true, if_false, hk]
theorem dn_go (fd : Nat) : ∀ (a : List T) (o : List (Int × Int)) (f : Nat), a.length ≤ 60 → o.length ≤ 2000 → 2002 ≤ f + o.length → 2001 ≤ fd + o.length →
    ((dn ps rows c fd a o).1 ≠ 0 → go ps rows c last seen f false a o = ((dn ps rows c fd a o).1, [], [])) ∧
    ((dn ps rows c fd a o).1 = 0 → ∃ f', 2002 ≤ f' + (dn ps rows c fd a o).2.2.length ∧ (dn ps rows c fd a o).2.2.length ≤ 2000 ∧ (dn ps rows c fd a o).2.1.length ≤ 60 ∧ go ps rows c last seen f false a o = go ps rows c last seen f' false (dn ps rows c fd a o).2.1 (dn ps rows c fd a o).2.2 ∧ (∀ x r, (dn ps rows c fd a o).2.1 = x :: r → x.1 = false ∧ x.2.2.1 = 1)) := by
  induction fd with
  | zero => intro a o f h1 h2 h3 h4; omega
  | succ fd ih =>
    intro a o f h1 h2 h3 h4
    obtain ⟨k1, k2⟩ := clo_go (ps := ps) (rows := rows) (c := c) (last := last) (seen := seen) a o f false h1 h2 h3
    rw [dn]
    cases hc : clo a o with
    | none => exact ⟨fun _ => k1 hc, fun h => by cases h⟩
    | some y =>
      obtain ⟨a', o'⟩ := y
      obtain ⟨f', j1, j2, j3, j4, j5⟩ := k2 a' o' hc
      have hlen := clo_len _ _ _ _ hc
      cases a' with
      | nil => exact ⟨fun h => absurd rfl h, fun _ => ⟨f', j1, j2, Nat.zero_le _, j4, (fun x r h => by cases h)⟩⟩
      | cons x r =>
        have hx := j5 x r rfl
        simp only []
        by_cases hk : x.2.2.1 = 1
        · rw [if_pos hk]
          exact ⟨fun h => absurd rfl h, fun _ => ⟨f', j1, j2, by simp only; omega, j4, (fun y q h => by cases h; exact ⟨hx, hk⟩)⟩⟩
        · rw [if_neg hk]
          obtain ⟨g, rfl⟩ : ∃ g, f' = g + 1 := ⟨f' - 1, by omega⟩
          have hs := go_kid (ps := ps) (rows := rows) (c := c) (last := last) (seen := seen) (f := g) (x := x) (r := r) (o := o') (by omega) hx hk
          by_cases hp : (rows.getD x.2.2.2.toNat []).getD c 0 < 0
          · rw [if_pos hp]
            rw [if_pos hp] at hs
            exact ⟨fun _ => by rw [j4, hs], fun h => by cases h⟩
          · rw [if_neg hp]
            rw [if_neg hp] at hs
            by_cases hd : 2000 ≤ o'.length ∨ 60 < (put ps ((rows.getD x.2.2.2.toNat []).getD c 0).toNat r).length
            · rw [if_pos hd]
              refine ⟨fun _ => ?_, fun h => by cases h⟩
              rw [j4, hs]
              exact go_over (by rw [List.length_append, List.length_singleton]; omega)
            · rw [if_neg hd, j4, hs]
              exact ih _ _ _ (by omega) (by rw [List.length_append, List.length_singleton]; omega) (by rw [List.length_append, List.length_singleton]; omega) (by rw [List.length_append, List.length_singleton]; omega)
theorem push_go (a : List T) (ha : a.length ≤ 60) : go ps rows c false seen 2002 false a [] = push ps rows c seen a := by
  obtain ⟨k1, k2⟩ := dn_go (ps := ps) (rows := rows) (c := c) (last := false) (seen := seen) 2001 a [] 2002 ha (by simp) (by simp) (by simp)
  rw [push]
  generalize dn ps rows c 2001 a [] = y at *
  by_cases h : y.1 = 0
  · rw [if_neg (by simp [h])]
    obtain ⟨f', j1, j2, j3, j4, j5⟩ := k2 h
    rw [j4]
    obtain ⟨g, rfl⟩ : ∃ g, f' = g + 1 := ⟨f' - 1, by omega⟩
    cases hy : y.2.1 with
    | nil => rw [go, if_neg (by rw [List.length_nil]; omega)]; rfl
    | cons x r =>
      obtain ⟨hx, hk⟩ := j5 x r hy
      rw [hy] at j3
      rw [go, if_neg (by omega), tok]
      simp only [hx, Bool.false_eq_true, if_false, hk, if_true]
      by_cases hc : x.2.2.2 ≠ c
      · rw [if_pos hc, if_pos hc]
      · rw [if_neg hc, if_neg hc]
        by_cases h4 : 2000 ≤ y.2.2.length
        · rw [if_pos h4]
          exact go_over (.inl (by rw [List.length_append, List.length_singleton]; omega))
        · rw [if_neg h4]
          rw [List.length_cons] at j3
          obtain ⟨i1, i2⟩ := clo_go (ps := ps) (rows := rows) (c := c) (last := false) (seen := seen) r (y.2.2 ++ [(2, seen)]) g true (by omega) (by rw [List.length_append, List.length_singleton]; omega) (by rw [List.length_append, List.length_singleton]; omega)
          cases hcl : clo r (y.2.2 ++ [(2, seen)]) with
          | none => exact i1 hcl
          | some z =>
            obtain ⟨a', o'⟩ := z
            obtain ⟨f2, l1, l2, l3, l4, l5⟩ := i2 a' o' hcl
            rw [l4]
            obtain ⟨g2, rfl⟩ : ∃ g, f2 = g + 1 := ⟨f2 - 1, by omega⟩
            cases a' with
            | nil => rw [go, if_neg (by rw [List.length_nil]; omega)]; rfl
            | cons z q =>
              rw [go, if_neg (by omega)]
              simp only [l5 z q rfl, Bool.false_eq_true, if_false, if_true]
  · rw [if_pos h]
    exact k1 h
theorem ending_go (a : List T) (ha : a.length ≤ 60) (hT : ∀ x r, (dn ps rows c 2001 a []).2.1 = x :: r → x.2.2.2 ≠ c) : go ps rows c true seen 2002 false a [] = ending ps rows c a := by
  obtain ⟨k1, k2⟩ := dn_go (ps := ps) (rows := rows) (c := c) (last := true) (seen := seen) 2001 a [] 2002 ha (by simp) (by simp) (by simp)
  rw [ending]
  generalize dn ps rows c 2001 a [] = y at *
  by_cases h : y.1 = 0
  · rw [if_neg (by simp [h])]
    obtain ⟨f', j1, j2, j3, j4, j5⟩ := k2 h
    rw [j4]
    obtain ⟨g, rfl⟩ : ∃ g, f' = g + 1 := ⟨f' - 1, by omega⟩
    cases hy : y.2.1 with
    | nil => rw [go, if_neg (by rw [List.length_nil]; omega), if_neg (by simp)]; rfl
    | cons x r =>
      obtain ⟨hx, hk⟩ := j5 x r hy
      rw [hy] at j3
      have hcons : x :: r ≠ [] := by simp
      rw [if_pos hcons, go, if_neg (by omega)]
      simp only [hx, Bool.false_eq_true, if_false, hk, if_true]
      rw [if_pos (hT x r hy)]
  · rw [if_pos h]
    exact k1 h
end
end Cl
attribute [irreducible] Cl.good
end Go.Proofs.Ytkhjncbjdldpbaa

/-
  right of package climb, RightTodo of the reference: what they compute.
-/
namespace Go.Proofs.Ytkhjncbjdldpbaa
set_option linter.unusedVariables false
open Go.ChangeShapes Go.WideShapes Go.ChangeAt Go.RowKit

namespace Cl
theorem good_close {t n : Int} {np : Nat} {m k s : Int} : good t n np (true, m, k, s) = decide (0 ≤ m ∧ m < np ∧ k = 0 ∧ s = 0) := by simp [good]
theorem good_sym {t n : Int} {np : Nat} {m k s : Int} : good t n np (false, m, k, s) = (decide (m = 0) && Gr.right t n (k, s)) := by simp [good]
theorem sym_yes {t n : Int} {np : Nat} {m k s : Int} (h0 : m = 0) (h : (k = 1 ∧ 0 ≤ s ∧ s < t) ∨ (k = 2 ∧ 0 ≤ s ∧ s < n)) : good t n np (false, m, k, s) = true := by
  rw [good_sym, Gr.right_yes h]; simp [h0]
theorem sym_no {t n : Int} {np : Nat} {m k s : Int} (h : ¬ (m = 0 ∧ ((k = 1 ∧ 0 ≤ s ∧ s < t) ∨ (k = 2 ∧ 0 ≤ s ∧ s < n)))) : good t n np (false, m, k, s) = false := by
  rw [good_sym]
  by_cases h0 : m = 0
  · rw [Gr.right_no (fun g => h ⟨h0, g⟩), Bool.and_false]
  · simp [h0]
end Cl

end Go.Proofs.Ytkhjncbjdldpbaa

/-
  RightTodo of the reference: what it computes.
-/
namespace Go.Proofs.Ytkhjncbjdldpbaa
set_option linter.unusedVariables false
open Go.ChangeShapes Go.WideShapes Go.ChangeAt Go.RowKit

end Go.Proofs.Ytkhjncbjdldpbaa

/-
  What is ahead, checked: the closure of climb.check, slices.ContainsFunc over it.
-/
namespace Go.Proofs.Ytkhjncbjdldpbaa
set_option linter.unusedVariables false
open Go.ChangeShapes Go.WideShapes Go.ChangeAt Go.RowKit

def Enc.todo : Enc Cl.T := Enc.prod Enc.bool (Enc.prod (Enc.int .i64) Enc.two)
def todoV (x : Cl.T) : Value := .agg #[.bool x.1, .int .i64 x.2.1, .int .i64 x.2.2.1, .int .i64 x.2.2.2]
abbrev Cl.z : Cl.T := (false, 0, 0, 0)
theorem slTodo {bytes : Nat} {F : Nat → Prop} {w : World} {v : Value} {l : List Cl.T} (h : (Enc.todo.sl bytes).R F w [v] l) :
    ∃ (ao : Option Addr) (b off cap : Nat), v = .slice ao l.length cap ∧ (l.length : Int) * bytes ≤ 140737488355328 ∧ (0 < l.length → ao = some ⟨b, off, none⟩ ∧ b < w.heap.size ∧ F b) ∧
      ∀ i, i < l.length → w.cell? ⟨b, off + i * 4, none⟩ = some (.bool (l.getD i Cl.z).1) ∧ w.cell? ⟨b, off + i * 4 + 1, none⟩ = some (.int .i64 (l.getD i Cl.z).2.1) ∧ w.cell? ⟨b, off + i * 4 + 2, none⟩ = some (.int .i64 (l.getD i Cl.z).2.2.1) ∧ w.cell? ⟨b, off + i * 4 + 3, none⟩ = some (.int .i64 (l.getD i Cl.z).2.2.2) ∧
        Enc.todo.R F w (todoV (l.getD i Cl.z)).cells.toList (l.getD i Cl.z) := by
  obtain ⟨ao, b, off, cap, h0, h1, h2, h3⟩ := Enc.slN Cl.z h
  refine ⟨ao, b, off, cap, h0, h1, h2, fun i hi => ?_⟩
  obtain ⟨cs, _, g2, g3⟩ := h3 i hi
  have g4 := g3
  obtain ⟨c1, c2, rfl, hb, c3, c4, rfl, ⟨rfl, _⟩, h5⟩ := g3
  have hb' : c1 = [.bool (l.getD i Cl.z).1] := hb
  subst hb'
  obtain ⟨rfl, _, _⟩ := two_cells h5
  exact ⟨g2 0 (by decide), g2 1 (by decide), g2 2 (by decide), g2 3 (by decide), g4⟩



end Go.Proofs.Ytkhjncbjdldpbaa

/-
  A slice that the call made, cut short; an append that finds no room. (A helper text; it claims nothing of the program.)
-/
namespace Go.Proofs.Ytkhjncbjdldpbaa
set_option linter.unusedVariables false
open Go.ChangeShapes Go.WideShapes Go.ChangeAt Go.RowKit

theorem cellsOf_take {size : Nat} {us : List Value} (h : ∀ u ∈ us, u.cells.size = size) (m : Nat) : cellsOf (us.take m) = (cellsOf us).take (m * size) := by
  have h1 : cellsOf us = cellsOf (us.take m) ++ cellsOf (us.drop m) := by rw [← cellsOf_append, List.take_append_drop]
  by_cases hm : m ≤ us.length
  · have h2 := cellsOf_len (size := size) (us := us.take m) (fun u hu => h u (List.mem_of_mem_take hu))
    rw [List.length_take, Nat.min_eq_left hm] at h2
    rw [h1, ← h2, List.take_left]
  · have h2 := cellsOf_len (size := size) (us := us) h
    rw [List.take_of_length_le (by omega), List.take_of_length_le]
    rw [h2]
    exact Nat.mul_le_mul_right _ (by omega)

theorem Own.take {w : World} {B : Nat} {e : TypeId} {size g n cap : Nat} {xs : List Value} (h : Own w B e size (.slice (some ⟨g, 0, none⟩) n cap) xs) (hu : ∀ u ∈ xs, u.cells.size = size) (m : Nat) (hm : m ≤ xs.length) :
    Own w B e size (.slice (some ⟨g, 0, none⟩) m cap) (xs.take m) := by
  unfold Own at h ⊢
  have hl : (xs.take m).length = m := by simp; omega
  rw [hl, cellsOf_take hu]
  obtain ⟨h1, h2⟩ := h
  have hle : m * size ≤ xs.length * size := Nat.mul_le_mul_right _ hm
  refine ⟨by rw [List.length_take, h1]; omega, ?_⟩
  rcases h2 with ⟨h2, _⟩ | ⟨g', cap', cur, hv, hB, hg, hn, hc, hcs, htk⟩
  · cases h2
  · simp only [Value.slice.injEq, Option.some.injEq, Addr.mk.injEq] at hv
    obtain ⟨⟨rfl, _⟩, rfl, rfl⟩ := hv
    refine .inr ⟨g, cap, cur, rfl, hB, hg, by omega, hc, hcs, ?_⟩
    rw [← htk, List.take_take]
    congr 1
    omega

theorem St.take {w0 w : World} {μ : List Asrt} {e : TypeId} {size g n cap : Nat} {xs : List Value} (h : St w0 w (aOwn e size (.slice (some ⟨g, 0, none⟩) n cap) xs :: μ)) (hu : ∀ u ∈ xs, u.cells.size = size) (m : Nat) (hm : m ≤ xs.length) :
    St w0 w (aOwn e size (.slice (some ⟨g, 0, none⟩) m cap) (xs.take m) :: μ) :=
  h.turn rfl ((Own.take (B := 0) (h.ok _ (.head _)) hu m hm))

/-- append(s, u), s being full: a new row, whatever s is. -/
theorem run_append_full {P : Program} {w : World} {t ty e : TypeId} {size bytes : Nat} (E : ET P t e size bytes) (b : Addr) (xs : List Value) (m : Nat) (hm : m = xs.length) (hxs : ∀ u ∈ xs, u.cells.size = size)
    (hread : ∀ j q, (cellsOf xs)[j]? = some q → w.cell? (b.add j) = some q) (u : Value) (a : Addr) (c : Nat) (hsz : u.cells.size = size) (hu : ∀ j q, u.cells.toList[j]? = some q → w.cell? (a.add j) = some q)
    (hlen : xs.length + 1 ≤ maxLen) (hroom : (xs.length + 1) * bytes ≤ 140737488355328) :
    ∃ cap w', (Builtin.append_ #[t, t] ty #[.slice (some b) m m, .slice (some a) 1 c]).run P w = .ok (.slice (some ⟨w.heap.size, 0, none⟩) (m + 1) cap) w' ∧
      Own w' w.heap.size e size (.slice (some ⟨w.heap.size, 0, none⟩) (m + 1) cap) (xs ++ [u]) ∧ Below w.heap.size w w' := by
  obtain ⟨ht, ⟨i, z, hi, hz, hsize, hby, hzs⟩, hp⟩ := E
  subst hsize hby hm
  have hcl := cellsOf_len hxs
  have hul : u.cells.toList.length = i.size := by rw [Array.length_toList]; exact hsz
  unfold maxLen at hlen
  have hr := run_append_grow (P := P) w t ty e i z ht hi hz b xs.length xs.length (cellsOf xs) hcl hread a 1 c u.cells.toList (by omega) hu (by omega) (by omega) (growslice_fits (by omega) hroom)
  refine ⟨_, _, hr, ?_, ?_⟩
  · unfold Own
    rw [cellsOf_append, oneCells, List.length_append, List.length_singleton]
    have hge := grownCap_ge w (xs.length + 1) xs.length e
    have hcm : grownCap w (xs.length + 1) xs.length e ≤ maxLen := grownCap_le_maxLen w (xs.length + 1) xs.length e (by unfold maxLen; omega)
    have hll : (cellsOf xs ++ u.cells.toList).length = (xs.length + 1) * i.size := by rw [List.length_append, hcl, hul, Nat.add_mul, Nat.one_mul]
    refine ⟨hll, .inr ⟨w.heap.size, _, _, rfl, Nat.le_refl _, heap_alloc_new w.drew _, hge, hcm, ?_, ?_⟩⟩
    · rw [Array.size_append, Array.size_append, List.size_toArray, List.size_toArray, size_zeroCells, hzs, ← List.length_append, hll, ← Nat.add_mul]
      congr 1
      omega
    · simp only [Array.toList_append, List.append_assoc]
      rw [← List.append_assoc, ← hll]
      exact List.take_left
  · exact (Below.refl _ _).drew.alloc (Nat.le_refl _) _

theorem St.wpAppFull {P : Program} {w0 w : World} {μ : List Asrt} {t e : TypeId} {size bytes : Nat} (E : ET P t e size bytes) {o : Oper} {a : Act} {K : Act → World → Prop} {Q : Exit → Act → World → Prop}
    (s x : Operand) (ho : o.op = .call { callee := .builtin .append, args := #[s, x], argTypes := #[t, t] }) (h : St w0 w μ) (b : Addr) (xs : List Value) (m : Nat) (hm : m = xs.length) (hs : a.eval s = .slice (some b) m m) (hxs : ∀ u ∈ xs, u.cells.size = size)
    (hread : ∀ j q, (cellsOf xs)[j]? = some q → w.cell? (b.add j) = some q) (u : Value) (ad : Addr) (c : Nat) (hx : a.eval x = .slice (some ad) 1 c) (hsz : u.cells.size = size) (hu : ∀ j q, u.cells.toList[j]? = some q → w.cell? (ad.add j) = some q)
    (hlen : xs.length + 1 ≤ maxLen) (hroom : (xs.length + 1) * bytes ≤ 140737488355328)
    (hK : ∀ g' cap w', St w0 w' (aOwn e size (.slice (some ⟨g', 0, none⟩) (m + 1) cap) (xs ++ [u]) :: μ) → K (a.put o.dst (.slice (some ⟨g', 0, none⟩) (m + 1) cap)) w') : o.wp P a w K Q := by
  obtain ⟨cap, w', hr, ho2, hb⟩ := run_append_full (ty := o.type) E b xs m hm hxs hread u ad c hsz hu hlen hroom
  unfold Oper.wp execOp
  simp only [ho, resolve, invoke, builtin, Sem.run_bind, Sem.run_pure, Result.andThen_ok, List.map_toArray, List.map_cons, List.map_nil, hs, hx, hr]
  exact hK _ cap w' (h.pushOwn hb ho2)

theorem St.appFull {P : Program} {w0 w : World} {μ : List Asrt} {t e : TypeId} {size bytes : Nat} (E : ET P t e size bytes) {ops : Array Oper} {rest : List Oper} {o : Oper} {a : Act} {Q : Exit → Act → World → Prop} (hgd : o.guard = none)
    (s x : Operand) (ho : o.op = .call { callee := .builtin .append, args := #[s, x], argTypes := #[t, t] }) (h : St w0 w μ) (b : Addr) (xs : List Value) (m : Nat) (hm : m = xs.length) (hs : a.eval s = .slice (some b) m m) (hxs : ∀ u ∈ xs, u.cells.size = size)
    (hread : ∀ j q, (cellsOf xs)[j]? = some q → w.cell? (b.add j) = some q) (u : Value) (ad : Addr) (c : Nat) (hx : a.eval x = .slice (some ad) 1 c) (hsz : u.cells.size = size) (hu : ∀ j q, u.cells.toList[j]? = some q → w.cell? (ad.add j) = some q)
    (hlen : xs.length + 1 ≤ maxLen) (hroom : (xs.length + 1) * bytes ≤ 140737488355328)
    (hK : ∀ g' cap w', St w0 w' (aOwn e size (.slice (some ⟨g', 0, none⟩) (m + 1) cap) (xs ++ [u]) :: μ) → wpList P ops Q rest (a.put o.dst (.slice (some ⟨g', 0, none⟩) (m + 1) cap)) w') : wpList P ops Q (o :: rest) a w :=
  wpList_plain hgd fun K hK' => St.wpAppFull E s x ho h b xs m hm hs hxs hread u ad c hx hsz hu hlen hroom fun g' cap w' h' => hK' _ _ (hK g' cap w' h')
/-- The same, u laid into a new block just before. -/
theorem St.appFull1n {P : Program} {w0 W : World} {μ : List Asrt} {t e : TypeId} {size bytes : Nat} (E : ET P t e size bytes) {ops : Array Oper} {rest : List Oper} {o : Oper} {a : Act} {Q : Exit → Act → World → Prop} {cs : Array Value} {T : TypeId} (hgd : o.guard = none)
    (s x : Operand) (ho : o.op = .call { callee := .builtin .append, args := #[s, x], argTypes := #[t, t] }) (h : St w0 W μ) (b : Addr) (xs : List Value) (m : Nat) (hm : m = xs.length) (hs : a.eval s = .slice (some b) m m) (hxs : ∀ u ∈ xs, u.cells.size = size)
    (hread : ∀ j q, (cellsOf xs)[j]? = some q → (W.alloc (.cells cs T)).cell? (b.add j) = some q) (u : Value) (hcs : cs = u.cells) (g c : Nat) (hx : a.eval x = .slice (some ⟨g, 0, none⟩) 1 c) (hg : g = W.heap.size) (hsz : u.cells.size = size)
    (hlen : xs.length + 1 ≤ maxLen) (hroom : (xs.length + 1) * bytes ≤ 140737488355328)
    (hK : ∀ g' cap w', St w0 w' (aOwn e size (.slice (some ⟨g', 0, none⟩) (m + 1) cap) (xs ++ [u]) :: μ) → wpList P ops Q rest (a.put o.dst (.slice (some ⟨g', 0, none⟩) (m + 1) cap)) w') : wpList P ops Q (o :: rest) a (W.alloc (.cells cs T)) := by
  subst hg hcs
  refine St.appFull E hgd s x ho (h.skip _) b xs m hm hs hxs hread u ⟨_, 0, none⟩ c hx hsz (fun j q hq => ?_) hlen hroom hK
  have hadd : (⟨W.heap.size, 0, none⟩ : Addr).add j = ⟨W.heap.size, j, none⟩ := by unfold Addr.add; split <;> simp_all
  rw [hadd]
  exact cells_lit _ _ j q hq
/-- append(s, u) at a step of a region that draws its order, u lying wherever it lies. -/
theorem St.stepU {P : Program} {w0 w : World} {μ : List Asrt} {t e : TypeId} {size bytes : Nat} (E : ET P t e size bytes) {ops : Array Oper} {o : Oper} {a : Act} {K : Act → World → Prop} {Q : Exit → Act → World → Prop} {EE : Prop}
    (hgd : o.guard = none) (s x : Operand) (ho : o.op = .call { callee := .builtin .append, args := #[s, x], argTypes := #[t, t] }) {v : Value} {xs : List Value} (hs : a.eval s = v)
    (h : St w0 w (aOwn e size v xs :: μ)) (u : Value) (g c : Nat) (hx : a.eval x = .slice (some ⟨g, 0, none⟩) 1 c) (hu : ∀ j q, u.cells.toList[j]? = some q → w.cell? ⟨g, j, none⟩ = some q)
    (hsz : u.cells.size = size) (h1 : ∀ q ∈ u.cells.toList, q.oneCell' = true) (hlen : xs.length + 1 ≤ maxLen) (hroom : (xs.length + 1) * bytes ≤ 140737488355328)
    (hK : ∀ g' n' cap w', St w0 w' (aOwn e size (.slice (some ⟨g', 0, none⟩) n' cap) (xs ++ [u]) :: μ) → K (a.put o.dst (.slice (some ⟨g', 0, none⟩) n' cap)) w') :
    if Region.wanted o (yielded ops a.tmps) = true then Oper.wp P o a w K Q else EE := by
  have hw : Region.wanted o (yielded ops a.tmps) = true := by simp [Region.wanted, hgd]
  rw [if_pos hw]
  refine St.wpApp E s x ho hs h [u] ⟨g, 0, none⟩ 1 c hx rfl (fun j q hq => ?_) (by simpa using hsz) (by rw [oneCells]; exact h1) (by omega) hlen hroom hK
  have hadd : (⟨g, 0, none⟩ : Addr).add j = ⟨g, j, none⟩ := by unfold Addr.add; split <;> simp_all
  rw [hadd]
  rw [oneCells] at hq
  exact hu j q hq
theorem St.celsAt {w0 w : World} {μ : List Asrt} {g : Nat} {T : TypeId} {u : Value} (h : St w0 w μ) (i : Nat) (hA : μ[i]? = some (aCel g T u.cells)) : ∀ j q, u.cells.toList[j]? = some q → w.cell? ⟨g, j, none⟩ = some q := by
  intro j q hq
  refine (h.nth i hA).celAt ?_
  simpa using hq
theorem St.ofBel {w w' : World} (hb : Below w.heap.size w w') : St w w' [] := (St.init w).call hb
end Go.Proofs.Ytkhjncbjdldpbaa

/-
  A slice of pairs that the call made: reading and storing its elements. (A helper text; it claims nothing of the program.)
-/
namespace Go.Proofs.Ytkhjncbjdldpbaa
set_option linter.unusedVariables false
open Go.ChangeShapes Go.WideShapes Go.ChangeAt Go.RowKit

theorem Own.setAt {w : World} {B : Nat} {e : TypeId} {size g n cap : Nat} {xs ys : List Value} (h : Own w B e size (.slice (some ⟨g, 0, none⟩) n cap) xs) (p : Nat) (u : Value) (hy : cellsOf ys = (cellsOf xs).set p u) (hl : ys.length = xs.length) :
    Own (w.setCell ⟨g, p, none⟩ u) B e size (.slice (some ⟨g, 0, none⟩) n cap) ys := by
  unfold Own at h ⊢
  rw [hl, hy]
  obtain ⟨h1, h2⟩ := h
  refine ⟨by rw [List.length_set]; exact h1, ?_⟩
  rcases h2 with ⟨h2, _⟩ | ⟨g', cap', cur, hv, hB, hg, hn, hc, hcs, htk⟩
  · cases h2
  · simp only [Value.slice.injEq, Option.some.injEq, Addr.mk.injEq] at hv
    obtain ⟨⟨rfl, _⟩, rfl, rfl⟩ := hv
    refine .inr ⟨g, cap, cur.setIfInBounds p u, rfl, hB, heap_setCell_same _ _ _ _ _ _ hg, hn, hc, by simpa using hcs, ?_⟩
    rw [Array.toList_setIfInBounds, List.take_set, htk]

theorem St.setAt {w0 w : World} {μ : List Asrt} {e : TypeId} {size g n cap : Nat} {xs ys : List Value} (h : St w0 w (aOwn e size (.slice (some ⟨g, 0, none⟩) n cap) xs :: μ)) (p : Nat) (u : Value) (hy : cellsOf ys = (cellsOf xs).set p u) (hl : ys.length = xs.length) :
    St w0 (w.setCell ⟨g, p, none⟩ u) (aOwn e size (.slice (some ⟨g, 0, none⟩) n cap) ys :: μ) := by
  refine h.upd rfl rfl rfl (by simp) (fun b hb hm => ?_) (Own.setAt (h.ok _ (.head _)) p u hy hl) (fun b hb => .inl hb) (by simp [aOwn, Value.ownBlock])
  exact heap_setCell_other _ _ _ _ (fun e => hm (by simp [aOwn, Value.ownBlock, e]))

theorem cells_fst (l : List (Int × Int)) (q : Nat) (a : Int) (d : Int × Int) (hq : q < l.length) : cellsOf ((l.set q (a, (l.getD q d).2)).map pairV) = (cellsOf (l.map pairV)).set (q * 2) (.int .i64 a) := by
  induction l generalizing q with
  | nil => simp at hq
  | cons x r ih =>
    cases q with
    | zero => simp [cellsOf, pairV, Value.cells]
    | succ q =>
      have := ih q (by simpa using hq)
      simp only [List.set_cons_succ, List.map_cons, cellsOf, List.flatMap_cons, List.getD_cons_succ] at this ⊢
      rw [this, show (q + 1) * 2 = q * 2 + 1 + 1 by omega]
      simp [pairV, Value.cells]
theorem cells_snd (l : List (Int × Int)) (q : Nat) (a : Int) (d : Int × Int) (hq : q < l.length) : cellsOf ((l.set q ((l.getD q d).1, a)).map pairV) = (cellsOf (l.map pairV)).set (q * 2 + 1) (.int .i64 a) := by
  induction l generalizing q with
  | nil => simp at hq
  | cons x r ih =>
    cases q with
    | zero => simp [cellsOf, pairV, Value.cells]
    | succ q =>
      have := ih q (by simpa using hq)
      simp only [List.set_cons_succ, List.map_cons, cellsOf, List.flatMap_cons, List.getD_cons_succ] at this ⊢
      rw [this, show (q + 1) * 2 + 1 = q * 2 + 1 + 1 + 1 by omega]
      simp [pairV, Value.cells]

section
variable {w0 w : World} {μ : List Asrt} {e : TypeId} {g n cap : Nat} {l : List (Int × Int)}
theorem St.setPair (h : St w0 w (aOwn e 2 (.slice (some ⟨g, 0, none⟩) n cap) (l.map pairV) :: μ)) (q : Nat) (hq : q < l.length) (x : Int × Int) :
    St w0 ((w.setCell ⟨g, q * 2, none⟩ (.int .i64 x.1)).setCell ⟨g, q * 2 + 1, none⟩ (.int .i64 x.2)) (aOwn e 2 (.slice (some ⟨g, 0, none⟩) n cap) ((l.set q x).map pairV) :: μ) := by
  have h1 := h.setAt (q * 2) (.int .i64 x.1) (cells_fst l q x.1 (0, 0) hq) (by simp)
  have h2 := h1.setAt (q * 2 + 1) (.int .i64 x.2) (cells_snd _ q x.2 (0, 0) (by simpa using hq)) (by simp)
  have e1 : ((l.set q (x.1, (l.getD q (0, 0)).2)).set q (((l.set q (x.1, (l.getD q (0, 0)).2)).getD q (0, 0)).1, x.2)) = l.set q x := by
    rw [List.set_set]
    congr 1
    simp [List.getD, hq]
  rw [e1] at h2
  exact h2
theorem St.cellPair (h : St w0 w (aOwn e 2 (.slice (some ⟨g, 0, none⟩) n cap) (l.map pairV) :: μ)) (q : Nat) (hq : q < l.length) :
    w.cell? ⟨g, q * 2, none⟩ = some (.int .i64 (l.getD q (0, 0)).1) ∧ w.cell? ⟨g, q * 2 + 1, none⟩ = some (.int .i64 (l.getD q (0, 0)).2) ∧ w.frozen? ⟨g, q * 2, none⟩ = false ∧ w.frozen? ⟨g, q * 2 + 1, none⟩ = false := by
  have ho := h.own
  have hr := ho
  unfold Own at hr
  have hg : ∃ cur T, w.heap[g]? = some (.cells cur T (0, 0)) := by
    rcases hr.2 with ⟨h2, _⟩ | ⟨g', cap', cur, hv, hB, hg, _⟩
    · cases h2
    · simp only [Value.slice.injEq, Option.some.injEq, Addr.mk.injEq] at hv
      obtain ⟨⟨rfl, _⟩, rfl, rfl⟩ := hv
      exact ⟨cur, _, hg⟩
  obtain ⟨cur, T, hg⟩ := hg
  have hcl := cellsOf_len (size := 2) (us := l.map pairV) (fun u hu => by obtain ⟨x, _, rfl⟩ := List.mem_map.1 hu; rfl)
  rw [List.length_map] at hcl
  have hx : (l.map pairV)[q]'(by simpa using hq) = pairV (l.getD q (0, 0)) := by simp [List.getD, hq]
  have hgt := fun j (hj : j < 2) => cellsOf_get (size := 2) (us := l.map pairV) (fun u hu => by obtain ⟨x, _, rfl⟩ := List.mem_map.1 hu; rfl) q (by simpa using hq) j hj
  rw [hx] at hgt
  have hcells := World.ownsRow.cells (g := g) hr rfl
  have c0 := hcells (q * 2) _ (by have := hgt 0 (by decide); rw [Nat.add_zero] at this; rw [this]; rfl)
  have c1 := hcells (q * 2 + 1) _ (by have := hgt 1 (by decide); rw [this]; rfl)
  have ad : ∀ p, (⟨g, 0, none⟩ : Addr).add p = ⟨g, p, none⟩ := fun p => by unfold Addr.add; split <;> simp_all
  rw [ad] at c0 c1
  exact ⟨c0, c1, frozen_of_row _ _ _ _ _ hg, frozen_of_row _ _ _ _ _ hg⟩
end
end Go.Proofs.Ytkhjncbjdldpbaa

/-
  The work of one who climbs: act, pop, closes, open of package climb, each once.
-/
namespace Go.Proofs.Ytkhjncbjdldpbaa
set_option linter.unusedVariables false
open Go.ChangeShapes Go.WideShapes Go.ChangeAt Go.RowKit

theorem pair_one3 (p : Int × Int) : ∀ q ∈ (pairV p).cells.toList, q.oneCell' = true := by
  intro q hq; simp [pairV, Value.cells] at hq; rcases hq with h | h <;> subst h <;> rfl
theorem todo_one (p : Cl.T) : ∀ q ∈ (todoV p).cells.toList, q.oneCell' = true := by
  intro q hq; simp [todoV, Value.cells] at hq; rcases hq with h | h | h | h <;> subst h <;> rfl
theorem todo_size (l : List Cl.T) : ∀ u ∈ l.map todoV, u.cells.size = 4 := by
  intro u hu; obtain ⟨x, _, rfl⟩ := List.mem_map.1 hu; rfl

namespace Cl
section
variable {w0 w w' : World} {W : Nat} {t n : Int} {vp : Value} {td : List T} {out : List (Int × Int)} {μ : List Asrt}
end
end Cl


/-- A cell of a slice of its own whose elements have several cells each. -/
theorem St.cellsN {α : Type} {w0 w : World} {μ : List Asrt} {e : TypeId} {size g n cap : Nat} {l : List α} {f : α → Value} (h : St w0 w (aOwn e size (.slice (some ⟨g, 0, none⟩) n cap) (l.map f) :: μ)) (hsz : ∀ x, (f x).cells.size = size) (i : Nat) (hi : i < l.length) (d : α) (j : Nat) (hj : j < size) (q : Value)
    (hq : (f (l.getD i d)).cells.toList[j]? = some q) : w.cell? ⟨g, i * size + j, none⟩ = some q := by
  have h1 : Own w 0 e size (.slice (some ⟨g, 0, none⟩) n cap) (l.map f) := h.ok _ (.head _)
  have hs2 : ∀ u ∈ l.map f, u.cells.size = size := by
    intro u hu; obtain ⟨y, hy, rfl⟩ := List.mem_map.1 hu; exact hsz y
  unfold Own at h1
  rcases h1.2 with ⟨h2, _⟩ | ⟨g', cap', cur, hv, hB, hg, hn, hc, hcs, htk⟩
  · cases h2
  · simp only [Value.slice.injEq, Option.some.injEq, Addr.mk.injEq] at hv
    obtain ⟨⟨rfl, _⟩, rfl, rfl⟩ := hv
    have h3 := cellsOf_get hs2 i (by rw [List.length_map]; exact hi) j hj
    rw [List.getElem_map, show l[i] = l.getD i d by simp [List.getD, List.getElem?_eq_getElem hi], hq, ← htk] at h3
    have hlt : i * size + j < (l.map f).length * size := by
      rw [List.length_map]
      have : (i + 1) * size ≤ l.length * size := Nat.mul_le_mul_right _ hi
      rw [Nat.add_mul] at this; omega
    rw [List.getElem?_take, if_pos hlt] at h3
    simp only [World.cell?, hg]
    simpa using h3
theorem St.cellTodo {w0 w : World} {μ : List Asrt} {e : TypeId} {g n cap : Nat} {l : List Cl.T} (h : St w0 w (aOwn e 4 (.slice (some ⟨g, 0, none⟩) n cap) (l.map todoV) :: μ)) (i : Nat) (hi : i < l.length) :
    w.cell? ⟨g, i * 4, none⟩ = some (.bool (l.getD i Cl.z).1) ∧ w.cell? ⟨g, i * 4 + 1, none⟩ = some (.int .i64 (l.getD i Cl.z).2.1) ∧ w.cell? ⟨g, i * 4 + 2, none⟩ = some (.int .i64 (l.getD i Cl.z).2.2.1) ∧ w.cell? ⟨g, i * 4 + 3, none⟩ = some (.int .i64 (l.getD i Cl.z).2.2.2) :=
  ⟨h.cellsN (fun _ => rfl) i hi Cl.z 0 (by decide) _ rfl, h.cellsN (fun _ => rfl) i hi Cl.z 1 (by decide) _ rfl, h.cellsN (fun _ => rfl) i hi Cl.z 2 (by decide) _ rfl, h.cellsN (fun _ => rfl) i hi Cl.z 3 (by decide) _ rfl⟩
theorem Own.capLe {w : World} {B : Nat} {e : TypeId} {size : Nat} {ao : Option Addr} {n cap : Nat} {xs : List Value} (h : Own w B e size (.slice ao n cap) xs) : xs.length ≤ cap ∧ n = xs.length := by
  unfold Own at h
  rcases h.2 with ⟨h2, h3⟩ | ⟨g', cap', cur, hv, hB, hg, hn, hc, hcs, htk⟩
  · cases h2; omega
  · cases hv; exact ⟨hn, rfl⟩
theorem Cl.snoc_get (ys : List Cl.T) (x : Cl.T) : (ys ++ [x]).getD ys.length Cl.z = x := by simp [List.getD]


namespace Cl
def tdLen (W : Nat) (wr : World) : Nat := match wr.cell? ⟨W, 3, none⟩ with | some (.slice _ n _) => n | _ => 0
theorem tdLen_of {W : Nat} {wr : World} {a : Option Addr} {n c : Nat} (h : wr.cell? ⟨W, 3, none⟩ = some (.slice a n c)) : tdLen W wr = n := by unfold tdLen; rw [h]
attribute [irreducible] tdLen
theorem clo_nil {o : List (Int × Int)} : clo [].reverse o = some ([], o) := rfl
theorem clo_stop {ys : List T} {x : T} {o : List (Int × Int)} (h : x.1 = false) : clo (ys ++ [x]).reverse o = some (x :: ys.reverse, o) := by
  rw [List.reverse_append]; show clo (x :: ys.reverse) o = _; rw [clo, if_neg (by simp [h])]
theorem clo_many {ys : List T} {x : T} {o : List (Int × Int)} (h : x.1 = true) (h2 : 2000 ≤ o.length) : clo (ys ++ [x]).reverse o = none := by
  rw [List.reverse_append]; show clo (x :: ys.reverse) o = _; rw [clo, if_pos h, if_pos h2]
theorem clo_step {ys : List T} {x : T} {o : List (Int × Int)} (h : x.1 = true) (h2 : ¬ 2000 ≤ o.length) : clo (ys ++ [x]).reverse o = clo ys.reverse (o ++ [(3, x.2.1)]) := by
  rw [List.reverse_append]; show clo (x :: ys.reverse) o = _; rw [clo, if_pos h, if_neg h2]
end Cl

end Go.Proofs.Ytkhjncbjdldpbaa

/-
  slices.SortFunc over an own slice of items, as one contract.
-/
namespace Go.Proofs.Ytkhjncbjdldpbaa
set_option linter.unusedVariables false
set_option linter.unusedSimpArgs false
open Go.ChangeShapes Go.WideShapes Go.ChangeAt Go.RowKit
open Go.Shelf Go.Lib Go.Sort

namespace It
abbrev z : I := (0, 0, 0)
theorem arr_get (out : List I) {i : Nat} (hi : i < out.length) : out.toArray[i]! = out.getD i z := by
  rw [getElem!_pos _ _ (by simpa using hi)]; simp [List.getD, hi]
theorem enc_get (x : I) {q : Nat} (hq : q < 3) : (itV x).cells.toList[q]? = some ((enc3 x)[q]!) := by
  match q, hq with
  | 0, _ => rfl
  | 1, _ => rfl
  | 2, _ => rfl
section
variable {w0 w : World} {μ : List Asrt} {g cap : Nat} {out : List I}
theorem block (h : St w0 w (aOwn 72 3 (.slice (some ⟨g, 0, none⟩) out.length cap) (out.map itV) :: μ)) : ∃ cur, w.heap[g]? = some (.cells cur 72 (0, 0)) ∧ out.length ≤ cap ∧ cap ≤ maxLen ∧ cur.size = cap * 3 := by
  have ho : Own w 0 72 3 (.slice (some ⟨g, 0, none⟩) out.length cap) (out.map itV) := h.ok _ (.head _)
  rcases ho.2 with ⟨h1, -⟩ | ⟨g2, cap2, cur, h1, -, hg, h3, h4, h5, -⟩
  · cases h1
  · simp only [Value.slice.injEq, Option.some.injEq, Addr.mk.injEq, and_true] at h1
    obtain ⟨rfl, -, rfl⟩ := h1
    rw [List.length_map] at h3
    exact ⟨cur, hg, h3, h4, h5⟩
theorem holds (h : St w0 w (aOwn 72 3 (.slice (some ⟨g, 0, none⟩) out.length cap) (out.map itV) :: μ)) : HoldsK enc3 3 w g 0 out.toArray := by
  intro j hj
  rw [size_flatK] at hj
  have hs : out.toArray.size = out.length := by simp
  rw [hs] at hj
  have hi : j / 3 < out.length := by omega
  have hm : j % 3 < 3 := Nat.mod_lt _ (by decide)
  obtain ⟨cur, hg, -⟩ := block h
  refine ⟨?_, by simp [World.frozen?, hg]⟩
  have := h.cellsN (f := itV) (fun _ => rfl) (j / 3) hi z (j % 3) hm _ (enc_get _ hm)
  rw [show j / 3 * 3 + j % 3 = j by omega] at this
  rw [get_flatK _ _ _ _ (by rw [hs]; exact hj), arr_get out hi, Nat.zero_add]
  exact this
theorem put_own (h : St w0 w (aOwn 72 3 (.slice (some ⟨g, 0, none⟩) out.length cap) (out.map itV) :: μ)) (d : Array I) (hd : d.size = out.length) (n : Nat) (os : Array Obj) :
    St w0 (sortWorldK enc3 3 w g 0 n d os) (aOwn 72 3 (.slice (some ⟨g, 0, none⟩) d.toList.length cap) (d.toList.map itV) :: μ) := by
  obtain ⟨cur, hg, hc1, hc2, hc3⟩ := block h
  have hlt : g < w.heap.size := (Array.getElem?_eq_some_iff.1 hg).1
  have hheap : (sortWorldK enc3 3 w g 0 n d os).heap = w.heap.modify g (onCells (putCells id 0 (flatK enc3 3 d))) ++ os := rfl
  have hl : d.toList.length = out.length := by rw [Array.length_toList, hd]
  have hnew : (sortWorldK enc3 3 w g 0 n d os).heap[g]? = some (.cells (putCells id 0 (flatK enc3 3 d) cur) 72 (0, 0)) := by
    rw [hheap, Array.getElem?_append_left (by simpa using hlt), Array.getElem?_modify, if_pos rfl, hg]; rfl
  have hsz : (putCells id 0 (flatK enc3 3 d) cur).size = cap * 3 := by rw [putCells, Array.size_mapIdx, hc3]
  refine h.upd rfl rfl rfl (by rw [hheap]; simp) (fun b hb hne => ?_) ?_ (fun b hb => .inl hb) (nodup_ob (.slice (some ⟨g, 0, none⟩) d.toList.length cap))
  · rw [hheap, Array.getElem?_append_left (by simpa using hb), Array.getElem?_modify, if_neg]
    rintro rfl
    exact hne (by simp [aOwn, Value.ownBlock])
  · show Own _ 0 _ 3 _ _
    have hln : (cellsOf (d.toList.map itV)).length = (d.toList.map itV).length * 3 := cellsOf_len (fun u hu => by obtain ⟨x, _, rfl⟩ := List.mem_map.1 hu; rfl)
    refine ⟨hln, .inr ⟨g, cap, _, by rw [List.length_map], Nat.zero_le _, hnew, by rw [List.length_map]; omega, hc2, hsz, ?_⟩⟩
    refine List.ext_getElem? (fun k => ?_)
    by_cases hk : k < d.toList.length * 3
    · have hi : k / 3 < d.toList.length := by omega
      have hm : k % 3 < 3 := Nat.mod_lt _ (by decide)
      have hc := cellsOf_get (size := 3) (us := d.toList.map itV) (fun u hu => by obtain ⟨x, _, rfl⟩ := List.mem_map.1 hu; rfl) (k / 3) (by rw [List.length_map]; exact hi) (k % 3) hm
      rw [show k / 3 * 3 + k % 3 = k by omega, List.getElem_map, enc_get _ hm] at hc
      have hk2 : k < cur.size := by omega
      rw [List.length_map, List.getElem?_take, if_pos hk, hc, Array.getElem?_toList, putCells, Array.getElem?_mapIdx, Array.getElem?_eq_getElem hk2, Option.map_some, if_pos ⟨Nat.zero_le _, by rw [size_flatK]; simpa using hk⟩, Nat.sub_zero]
      have hdk : k < d.size * 3 := by simpa using hk
      rw [id, get_flatK _ _ _ _ hdk, getElem!_pos d (k / 3) (by omega)]
      rfl
    · rw [List.getElem?_eq_none (by rw [List.length_take, List.length_map]; omega), List.getElem?_eq_none (by rw [hln, List.length_map]; omega)]
end
end It

set_option maxRecDepth 100000 in
theorem itSortNil (w : World) : Calls Try.prog 110 #[.slice none 0 0, .func (.func 111) #[] #[]] w fun e w' => e = .returned (.tuple #[]) ∧ Below w.heap.size w w' := by
  have hb := Lib.hid (Below.refl w.heap.size w)
  go_enter Try.func110, Try.ntmps110
  go_wp2
  go_rounds 2
  go_rounds 2
  all_goals (first | (go_end0; exact ⟨rfl, hb.out⟩) | (go_rounds 2; go_end0; exact ⟨rfl, hb.out⟩))

set_option maxRecDepth 100000 in
set_option maxHeartbeats 2000000 in
theorem itSort_any (w0 w : World) (g cap : Nat) (out : List It.I) (μ : List Asrt) (hl : out.length ≤ 1000000) (h : St w0 w (aOwn 72 3 (.slice (some ⟨g, 0, none⟩) out.length cap) (out.map It.itV) :: μ)) :
    Calls Try.prog 110 #[.slice (some ⟨g, 0, none⟩) out.length cap, .func (.func 111) #[] #[]] w fun e w' => ∃ out' : List It.I, e = .returned (.tuple #[]) ∧ out'.Perm out ∧ (∀ i j, i < j → j < out'.length → It.lt (out'.getD j It.z) (out'.getD i It.z) = false) ∧ St w0 w' (aOwn 72 3 (.slice (some ⟨g, 0, none⟩) out'.length cap) (out'.map It.itV) :: μ) := by
  have eg : ∀ args w, (callFunc 111 args).run Try.prog w = .ok (.enter 111 args) w := enters_of Try.func111 (by kernel_rfl) rfl
  obtain ⟨cur, hg, -⟩ := It.block h
  have hcmp : CmpLays Try.prog 111 #[] It.enc3 3 It.ord g 0 out.toArray.size w := fun _ _ _ _ x y => itOrder_any x y _
  have hcon := AnyQ.slices_SortFunc It.sortItem 3 Try.isAgg72 Try.sizeOf72 It.enc3 (fun _ => rfl) (fun x v hv => by simp [It.enc3] at hv; rcases hv with rfl | rfl | rfl <;> rfl) It.ord It.swo 111 #[] g 0 cap out.toArray w eg hcmp (It.holds h) (Array.getElem?_eq_some_iff.1 hg).1 (by simp; omega)
  have hs : out.toArray.size = out.length := by simp
  rw [hs] at hcon
  refine hcon.mono ?_
  rintro e w' ⟨rfl, d', n, os, hp, hsort, rfl⟩
  have hd : d'.size = out.length := by have := hp.1; rwa [hs] at this
  refine ⟨d'.toList, rfl, ?_, fun i j hij hj => ?_, It.put_own h d' hd n os⟩
  · have := hp.2.2
    rw [show d'.extract 0 out.length = d' by rw [← hd]; simp, show out.toArray.extract 0 out.length = out.toArray by simp] at this
    simpa using this
  · have hj' : j < d'.size := by simpa using hj
    have := hsort i j (Nat.zero_le _) hij (by omega)
    rw [It.ltOf_ord, getElem!_pos d' j hj', getElem!_pos d' i (by omega)] at this
    rw [show d'.toList.getD j It.z = d'[j] by simp [List.getD, hj'], show d'.toList.getD i It.z = d'[i] by simp [List.getD, show i < d'.size by omega]]
    exact this
end Go.Proofs.Ytkhjncbjdldpbaa

/-
  States of items, plainly: small laws of the loops. (Nothing of the program is claimed.)
-/
namespace Go.Proofs.Ytkhjncbjdldpbaa
set_option linter.unusedVariables false

namespace It
theorem put_len {out : List I} {y : I} : (put out y).length ≤ out.length + 1 := by
  unfold put; split
  · omega
  · rw [List.length_append, List.length_singleton]; exact Nat.le_refl _
theorem puts_len {ys : List I} : ∀ {out : List I}, (puts ys out).length ≤ out.length + ys.length := by
  induction ys with
  | nil => intro out; exact Nat.le_refl _
  | cons y r ih =>
    intro out
    have h1 := ih (out := put out y)
    have h2 := put_len (out := out) (y := y)
    show (puts r (put out y)).length ≤ _
    rw [List.length_cons]; omega
theorem puts_getD {ys out : List I} {n : Nat} (h : n < out.length) : (puts ys out).getD n (0, 0, 0) = out.getD n (0, 0, 0) ∧ n < (puts ys out).length := by
  obtain ⟨r, hr⟩ := puts_pre (ys := ys) (out := out)
  rw [hr]
  refine ⟨?_, by rw [List.length_append]; omega⟩
  rw [List.getD_eq_getElem?_getD, List.getElem?_append_left h, ← List.getD_eq_getElem?_getD]
theorem take_snoc (L : List I) {i : Nat} (h : i < L.length) : L.take (i + 1) = L.take i ++ [L.getD i (0, 0, 0)] := by
  rw [List.take_add_one, List.getElem?_eq_getElem h]; simp [List.getD, List.getElem?_eq_getElem h]
theorem range_snoc {f : Nat → List I} (i : Nat) : (List.range (i + 1)).flatMap f = (List.range i).flatMap f ++ f i := by
  rw [List.range_succ, List.flatMap_append, List.flatMap_singleton]
/-- What comes up at a production, as far as look k. -/
def upTo (E : List Bool) (F : List Nat) (l : List Fc.Pr) (x : I) (i k : Nat) : List I := ((List.range k).filter (opens E F l x)).map (fun k : Nat => ((i : Int), (0 : Int), (k : Int)))
theorem upTo_zero {E F l x i} : upTo E F l x i 0 = [] := rfl
theorem upTo_yes {E F l x i k} (h : opens E F l x k = true) : upTo E F l x i (k + 1) = upTo E F l x i k ++ [((i : Int), (0 : Int), (k : Int))] := by
  unfold upTo
  rw [List.range_succ, List.filter_append, List.map_append]
  simp [h]
theorem upTo_no {E F l x i k} (h : opens E F l x k = false) : upTo E F l x i (k + 1) = upTo E F l x i k := by
  unfold upTo
  rw [List.range_succ, List.filter_append, List.map_append]
  simp [h]
theorem upTo_sub {E F l x i k T'} (h : k ≤ T') {y : I} (hy : y ∈ upTo E F l x i k) : y ∈ upTo E F l x i T' := by
  unfold upTo at *
  obtain ⟨q, hq, rfl⟩ := List.mem_map.1 hy
  rw [List.mem_filter, List.mem_range] at hq
  exact List.mem_map.2 ⟨q, List.mem_filter.2 ⟨List.mem_range.2 (by omega), hq.2⟩, rfl⟩
theorem atP_no {T E F l x i} (h : ¬ (l.getD i (0, [])).1 = ((body l x.1).getD x.2.1.toNat (0, 0)).2) : atP T E F l x i = [] := if_neg h
theorem atP_yes {T E F l x i} (h : (l.getD i (0, [])).1 = ((body l x.1).getD x.2.1.toNat (0, 0)).2) : atP T E F l x i = upTo E F l x i (T + 1) := if_pos h
theorem sorted_rise {A : List I} (hn : A.Nodup) (h : ∀ i j, i < j → j < A.length → lt (A.getD j (0, 0, 0)) (A.getD i (0, 0, 0)) = false) : A.Pairwise (fun x y => lt x y = true) := by
  rw [List.pairwise_iff_getElem]
  intro i j hi hj hij
  have h1 := h i j hij hj
  rw [show A.getD j (0, 0, 0) = A[j] by simp [List.getD, hj], show A.getD i (0, 0, 0) = A[i] by simp [List.getD, hi]] at h1
  cases h2 : lt A[i] A[j]
  · have := lt_conn h2 h1
    have hne := (List.pairwise_iff_getElem.1 hn) i j hi hj hij
    exact absurd this hne
  · rfl
theorem rch_ok {t : Int} {T : Nat} (hT : (T : Int) = t) {E F l} {L : List I} (h : ∀ x ∈ L, okI t l x) {x : I} (hx : Rch (nexts T E F l) L x) : okI t l x :=
  hx.all h (fun y _ q hq => hT ▸ nexts_ok hq)
theorem bit_at (M k : Nat) (h : M < 18446744073709551616) : bits .and .u64 ((M : Int) / 2 ^ k) 1 = (if M.testBit k = true then 1 else 0) := by
  have hd : M / 2 ^ k < 18446744073709551616 := Nat.lt_of_le_of_lt (Nat.div_le_self _ _) h
  have := bits_and_u64_nat (M / 2 ^ k) 1 hd (by decide)
  rw [Nat.and_one_is_mod] at this
  have e : (M : Int) / 2 ^ k = ((M / 2 ^ k : Nat) : Int) := by rw [Int.natCast_ediv]; norm_cast
  rw [e]
  refine this.trans ?_
  have ht : M.testBit k = decide (M / 2 ^ k % 2 = 1) := by rw [Nat.testBit_eq_decide_div_mod_eq]
  rw [ht]
  by_cases h2 : M / 2 ^ k % 2 = 1
  · rw [h2]; rfl
  · rw [if_neg (by simp [h2]), show M / 2 ^ k % 2 = 0 by omega]; rfl
end It
end Go.Proofs.Ytkhjncbjdldpbaa

/-
  list of the reference's cube: what is marked, rising.
-/
namespace Go.Proofs.Ytkhjncbjdldpbaa
set_option linter.unusedVariables false
set_option linter.unusedSimpArgs false
open Go.ChangeShapes Go.WideShapes Go.ChangeAt Go.RowKit

namespace It
/-- What is marked in a row up to k, in a plane up to d, in all up to p. -/
def lineL (V : Nat → Nat → Nat → Bool) (p d k : Nat) : List I := ((List.range k).filter (V p d)).map (fun q : Nat => ((p : Int), (d : Int), (q : Int)))
def planeL (V : Nat → Nat → Nat → Bool) (N p d : Nat) : List I := (List.range d).flatMap (fun q => lineL V p q N)
def cubeL (V : Nat → Nat → Nat → Bool) (hd : Nat → Nat) (N p : Nat) : List I := (List.range p).flatMap (fun q => planeL V N q (hd q))
section
variable {V : Nat → Nat → Nat → Bool} {hd : Nat → Nat} {N p d k : Nat}
theorem lineL_yes (h : V p d k = true) : lineL V p d (k + 1) = lineL V p d k ++ [((p : Int), (d : Int), (k : Int))] := by
  unfold lineL; rw [List.range_succ, List.filter_append, List.map_append]; simp [h]
theorem lineL_no (h : V p d k = false) : lineL V p d (k + 1) = lineL V p d k := by
  unfold lineL; rw [List.range_succ, List.filter_append, List.map_append]; simp [h]
theorem planeL_snoc : planeL V N p (d + 1) = planeL V N p d ++ lineL V p d N := by unfold planeL; rw [range_snoc]
theorem cubeL_snoc : cubeL V hd N (p + 1) = cubeL V hd N p ++ planeL V N p (hd p) := by unfold cubeL; rw [range_snoc]
theorem flat_len {f : Nat → List I} {B : Nat} (n : Nat) (h : ∀ i, i < n → (f i).length ≤ B) : ((List.range n).flatMap f).length ≤ n * B := by
  induction n with
  | zero => simp
  | succ n ih =>
    rw [range_snoc, List.length_append]
    have h1 := ih (fun i hi => h i (by omega))
    have h2 := h n (by omega)
    rw [Nat.succ_mul]; omega
theorem lineL_len : (lineL V p d k).length ≤ k := by
  unfold lineL
  rw [List.length_map]
  refine Nat.le_trans (List.length_filter_le _ _) ?_
  rw [List.length_range]; exact Nat.le_refl _
theorem planeL_len : (planeL V N p d).length ≤ d * N := flat_len d (fun i _ => lineL_len)
theorem cubeL_len {D : Nat} (h : ∀ q, q < p → hd q ≤ D) : (cubeL V hd N p).length ≤ p * (D * N) := flat_len p (fun i hi => Nat.le_trans planeL_len (Nat.mul_le_mul_right _ (h i hi)))
theorem mem_lineL {x : I} : x ∈ lineL V p d k ↔ ∃ q, q < k ∧ V p d q = true ∧ x = ((p : Int), (d : Int), (q : Int)) := by
  unfold lineL
  rw [List.mem_map]
  constructor
  · rintro ⟨q, hq, rfl⟩
    rw [List.mem_filter, List.mem_range] at hq
    exact ⟨q, hq.1, hq.2, rfl⟩
  · rintro ⟨q, h1, h2, rfl⟩
    exact ⟨q, List.mem_filter.2 ⟨List.mem_range.2 h1, h2⟩, rfl⟩
theorem mem_cubeL {x : I} : x ∈ cubeL V hd N p ↔ ∃ a b q, a < p ∧ b < hd a ∧ q < N ∧ V a b q = true ∧ x = ((a : Int), (b : Int), (q : Int)) := by
  unfold cubeL planeL
  rw [List.mem_flatMap]
  constructor
  · rintro ⟨a, ha, h⟩
    obtain ⟨b, hb, h⟩ := List.mem_flatMap.1 h
    obtain ⟨q, h1, h2, h3⟩ := mem_lineL.1 h
    exact ⟨a, b, q, List.mem_range.1 ha, List.mem_range.1 hb, h1, h2, h3⟩
  · rintro ⟨a, b, q, h1, h2, h3, h4, h5⟩
    exact ⟨a, List.mem_range.2 h1, List.mem_flatMap.2 ⟨b, List.mem_range.2 h2, mem_lineL.2 ⟨q, h3, h4, h5⟩⟩⟩
theorem rise_cubeL : (cubeL V hd N p).Pairwise (fun x y => lt x y = true) := by
  unfold cubeL planeL
  rw [List.pairwise_flatMap]
  refine ⟨fun a _ => ?_, List.Pairwise.imp (fun {a b} hab x hx y hy => ?_) List.pairwise_lt_range⟩
  · rw [List.pairwise_flatMap]
    refine ⟨fun b _ => ?_, List.Pairwise.imp (fun {b b'} hbb x hx y hy => ?_) List.pairwise_lt_range⟩
    · unfold lineL
      rw [List.pairwise_map]
      refine List.Pairwise.filter _ (List.Pairwise.imp (fun {u v} huv => ?_) List.pairwise_lt_range)
      exact lt_iff.2 (by dsimp only; omega)
    · obtain ⟨q, -, -, rfl⟩ := mem_lineL.1 hx
      obtain ⟨q', -, -, rfl⟩ := mem_lineL.1 hy
      exact lt_iff.2 (by dsimp only; omega)
  · obtain ⟨u, -, hx⟩ := List.mem_flatMap.1 hx
    obtain ⟨v, -, hy⟩ := List.mem_flatMap.1 hy
    obtain ⟨q, -, -, rfl⟩ := mem_lineL.1 hx
    obtain ⟨q', -, -, rfl⟩ := mem_lineL.1 hy
    rw [lt_iff]; simp only; omega
end
end It

set_option maxRecDepth 100000 in
set_option maxHeartbeats 8000000 in
theorem rList_any (w0 w : World) (μ : List Asrt) (g c np N : Nat) (hd : Nat → Nat) (Q : List Cube.Pl) (hS : Cube.Shape Q np hd N) (hN : 0 < N) (hN2 : N ≤ 31) (hnp : np ≤ 41) (hpos : ∀ p, p < np → 0 < hd p ∧ hd p ≤ 9) (h : St w0 w (Cube.aCube (.slice (some ⟨g, 0, none⟩) np c) Q :: μ)) :
    Calls Try.prog 83 #[.slice (some ⟨g, 0, none⟩) np c] w fun e w' => ∃ (a : Option Addr) (nn c' : Nat), e = .returned (.slice a nn c') ∧ St w0 w' (aOwn 72 3 (.slice a nn c') ((It.cubeL (Cube.mark Q) hd N np).map It.itV) :: Cube.aCube (.slice (some ⟨g, 0, none⟩) np c) Q :: μ) := by
  have HST := Lib.hid (h.nilOwn 72 3)
  have HRD := Lib.hid (fun W (h : St w0 W (Cube.aCube (.slice (some ⟨g, 0, none⟩) np c) Q :: μ)) p d k (hp : p < np) (hdd : d < hd p) (hk : k < N) => Cube.reads h hS rfl hp hdd hk)
  have HPOS := Lib.hid hpos
  have HLEN : Hid (∀ p d k, p ≤ np → d ≤ 9 → k ≤ N → (It.cubeL (Cube.mark Q) hd N p ++ (It.planeL (Cube.mark Q) N p d ++ It.lineL (Cube.mark Q) p d k)).length ≤ 20000) := Lib.hid (fun p d k hp hdd hk => by
    have h1 := It.cubeL_len (V := Cube.mark Q) (hd := hd) (N := N) (p := p) (D := 9) (fun q hq => (hpos q (by omega)).2)
    have h2 := It.planeL_len (V := Cube.mark Q) (N := N) (p := p) (d := d)
    have h3 := It.lineL_len (V := Cube.mark Q) (p := p) (d := d) (k := k)
    rw [List.length_append, List.length_append]
    have h4 : p * (9 * N) ≤ 41 * (9 * 31) := Nat.mul_le_mul (by omega) (Nat.mul_le_mul_left 9 hN2)
    have h5 : d * N ≤ 9 * 31 := Nat.mul_le_mul hdd hN2
    omega)
  generalize hV : Cube.mark Q = V at *
  clear h hS hV hpos
  go_enter Try.func83, Try.ntmps83
  go_wp2_with (fail)
  go_loopg [3, 4] np (fun gk v3 v4 wr => ∃ (p : Nat) (a : Option Addr) (nn c' : Nat) (vw : Value), vw = v3 ∧ vw = .slice a nn c' ∧ v4 = .int .i64 (p : Int) ∧ p ≤ np ∧ gk = np - p ∧ St w0 wr (aOwn 72 3 (.slice a nn c') ((It.cubeL V hd N p).map It.itV) :: Cube.aCube (.slice (some ⟨g, 0, none⟩) np c) Q :: μ))
  case atStart => exact ⟨0, none, 0, 0, _, rfl, rfl, rfl, Nat.zero_le _, rfl, HST.out⟩
  case round =>
    clear HST
    obtain ⟨p, a, nn, c', vw, rfl, rfl, rfl, hp, hgk, hst⟩ := hrel
    have HGK := Lib.hid hgk
    have HS := Lib.hid hst
    clear hst hgk
    by_cases hlt : p < np
    · have hltI : (p : Int) < (np : Int) := by omega
      have hltD : decide ((p : Int) < (np : Int)) = true := decide_eq_true hltI
      obtain ⟨hp0, hp9⟩ := HPOS.out p hlt
      go_wp2_with (fail)
      go_loopg [3, 5] (hd p) (fun gk v3 v5 wr2 => ∃ (d : Nat) (a : Option Addr) (nn c' : Nat) (vw : Value), vw = v3 ∧ vw = .slice a nn c' ∧ v5 = .int .i64 (d : Int) ∧ d ≤ hd p ∧ gk = hd p - d ∧ St w0 wr2 (aOwn 72 3 (.slice a nn c') ((It.cubeL V hd N p ++ It.planeL V N p d).map It.itV) :: Cube.aCube (.slice (some ⟨g, 0, none⟩) np c) Q :: μ))
      case atStart => exact ⟨0, a, nn, c', _, rfl, rfl, rfl, Nat.zero_le _, rfl, by rw [show It.planeL V N p 0 = [] from rfl, List.append_nil]; exact HS.out⟩
      case round =>
        rename World => wp
        clear HS
        obtain ⟨d, a, nn, c', vw, rfl, rfl, rfl, hdd, hgk, hst⟩ := hrel
        have HGK2 := Lib.hid hgk
        have HS := Lib.hid hst
        clear hst hgk
        obtain ⟨gp, cp, gr, r0, r1, r2, r3, -⟩ := HRD.out _ (HS.out.pick (ρ := Cube.aCube (.slice (some ⟨g, 0, none⟩) np c) Q :: μ) [1] 2 rfl rfl) p 0 0 hlt hp0 hN
        by_cases hlt2 : d < hd p
        · have hlt2I : (d : Int) < (hd p : Int) := by omega
          have hlt2D : decide ((d : Int) < (hd p : Int)) = true := decide_eq_true hlt2I
          clear r1 r2 r3
          go_wp2_with (fail)
          clear r0
          go_loopg [3, 6] N (fun gk v3 v6 wr3 => ∃ (k : Nat) (a : Option Addr) (nn c' : Nat) (vw : Value), vw = v3 ∧ vw = .slice a nn c' ∧ v6 = .int .i64 (k : Int) ∧ k ≤ N ∧ gk = N - k ∧ St w0 wr3 (aOwn 72 3 (.slice a nn c') ((It.cubeL V hd N p ++ (It.planeL V N p d ++ It.lineL V p d k)).map It.itV) :: Cube.aCube (.slice (some ⟨g, 0, none⟩) np c) Q :: μ))
          case atStart => exact ⟨0, a, nn, c', _, rfl, rfl, rfl, Nat.zero_le _, rfl, by rw [show It.lineL V p d 0 = [] from rfl, List.append_nil]; exact HS.out⟩
          case round =>
            rename World => wq
            clear HS
            obtain ⟨k, a, nn, c', vw, rfl, rfl, rfl, hk, hgk, hst⟩ := hrel
            have HGK3 := Lib.hid hgk
            have HS := Lib.hid hst
            clear hst hgk
            by_cases hlt3 : k < N
            · have hlt3I : (k : Int) < (N : Int) := by omega
              have hlt3D : decide ((k : Int) < (N : Int)) = true := decide_eq_true hlt3I
              obtain ⟨gp, cp, gr, r0, r1, r2, r3, -⟩ := HRD.out _ (HS.out.pick (ρ := Cube.aCube (.slice (some ⟨g, 0, none⟩) np c) Q :: μ) [1] 2 rfl rfl) p d k hlt hlt2 hlt3
              have hlen := HLEN.out p d k (by omega) (by omega) (by omega)
              have HLN := Lib.hid hlen
              clear hlen
              cases hv : V p d k
              · rw [hv] at r2
                have HLL := Lib.hid (It.lineL_no hv)
                clear hv
                go_wp2_with (fail)
                go_roundg (N - (k + 1))
                case measure => have := HGK3.out; omega
                case rel =>
                  refine ⟨k + 1, a, nn, c', _, rfl, rfl, by go_num, by omega, rfl, ?_⟩
                  rw [HLL.out]; exact HS.out
              · rw [hv] at r2
                have HLL := Lib.hid (It.lineL_yes hv)
                clear hv
                go_wp2_with (at_builtin; refine St.app1n It.itemE rfl (.tmp 44) (.tmp 49) rfl rfl HS.out (It.itV ((p : Int), (d : Int), (k : Int))) rfl _ 1 rfl (by simp) rfl (It.it_one _) (by rw [List.length_map]; have := HLN.out; unfold maxLen; omega) (by rw [List.length_map]; have := HLN.out; omega) ?_; intro g7 n7 c7 w7 hst7; have HS7 := Lib.hid hst7; clear hst7)
                go_roundg (N - (k + 1))
                case measure => have := HGK3.out; omega
                case rel =>
                  refine ⟨k + 1, some ⟨g7, 0, none⟩, n7, c7, _, rfl, rfl, by go_num, by omega, rfl, ?_⟩
                  rw [HLL.out, ← List.append_assoc, ← List.append_assoc, List.map_append, List.append_assoc]
                  exact HS7.out
            · have hkN : k = N := by omega
              have hlt3D : decide ((k : Int) < (N : Int)) = false := decide_eq_false (by omega)
              have hlt3f : ¬ ((k : Int) < (N : Int)) := by omega
              obtain ⟨gp, cp, gr, r0, r1, r2, r3, -⟩ := HRD.out _ (HS.out.pick (ρ := Cube.aCube (.slice (some ⟨g, 0, none⟩) np c) Q :: μ) [1] 2 rfl rfl) p d 0 hlt hlt2 hN
              rw [hkN] at HS
              have HPS := Lib.hid (It.planeL_snoc (V := V) (N := N) (p := p) (d := d))
              clear r2 r3 hkN
              go_wp2_with (fail)
              go_roundg (hd p - (d + 1))
              case measure => have := HGK2.out; omega
              case rel =>
                refine ⟨d + 1, a, nn, c', _, rfl, rfl, by go_num, by omega, rfl, ?_⟩
                rw [HPS.out]; exact HS.out
        · have hdp : d = hd p := by omega
          have hlt2D : decide ((d : Int) < (hd p : Int)) = false := decide_eq_false (by omega)
          have hlt2f : ¬ ((d : Int) < (hd p : Int)) := by omega
          rw [hdp] at HS
          have HCS := Lib.hid (It.cubeL_snoc (V := V) (hd := hd) (N := N) (p := p))
          clear r1 r2 r3 hdp
          go_wp2_with (fail)
          go_roundg (np - (p + 1))
          case measure => have := HGK.out; omega
          case rel =>
            refine ⟨p + 1, a, nn, c', _, rfl, rfl, by go_num, by omega, rfl, ?_⟩
            rw [HCS.out]; exact HS.out
    · have hpn : p = np := by omega
      have hltD : decide ((p : Int) < (np : Int)) = false := decide_eq_false (by omega)
      have hltf : ¬ ((p : Int) < (np : Int)) := by omega
      rw [hpn] at HS
      clear hpn
      go_wp2_with (fail)
      go_ret
      exact ⟨_, _, _, rfl, HS.out⟩
end Go.Proofs.Ytkhjncbjdldpbaa

/-
  The reference's queue and cube, plainly. (Nothing of the program is claimed.)
-/
namespace Go.Proofs.Ytkhjncbjdldpbaa
set_option linter.unusedVariables false
set_option linter.unusedSimpArgs false

namespace It
section
variable {T : Nat} {E : List Bool} {F : List Nat} {l : List Fc.Pr} {x : I} {i k : Nat}
/-- What comes up at a production as far as look k. -/
def part (E : List Bool) (F : List Nat) (l : List Fc.Pr) (x : I) (i k : Nat) : List I := if (l.getD i (0, [])).1 = ((body l x.1).getD x.2.1.toNat (0, 0)).2 then upTo E F l x i k else []
theorem part_zero : part E F l x i 0 = [] := by unfold part; split <;> rfl
theorem part_all : part E F l x i (T + 1) = atP T E F l x i := rfl
theorem part_skip (h : ¬ (l.getD i (0, [])).1 = ((body l x.1).getD x.2.1.toNat (0, 0)).2) : part E F l x i k = [] := if_neg h
theorem part_no (h : opens E F l x k = false) : part E F l x i (k + 1) = part E F l x i k := by unfold part; rw [upTo_no h]
theorem part_yes (hh : (l.getD i (0, [])).1 = ((body l x.1).getD x.2.1.toNat (0, 0)).2) (h : opens E F l x k = true) : part E F l x i (k + 1) = part E F l x i k ++ [((i : Int), (0 : Int), (k : Int))] := by
  unfold part; rw [if_pos hh, if_pos hh, upTo_yes h]
theorem upTo_len : (upTo E F l x i k).length ≤ k := by
  unfold upTo
  rw [List.length_map]
  exact Nat.le_trans (List.length_filter_le _ _) (by rw [List.length_range]; exact Nat.le_refl _)
theorem part_len : (part E F l x i k).length ≤ k := by
  unfold part
  split
  · exact upTo_len
  · exact Nat.zero_le _
def came (T : Nat) (E : List Bool) (F : List Nat) (l : List Fc.Pr) (x : I) (i k : Nat) : List I := (List.range i).flatMap (atP T E F l x) ++ part E F l x i k
theorem came_zero : came T E F l x 0 0 = [] := by unfold came; rw [part_zero]; rfl
theorem came_start : came T E F l x i 0 = (List.range i).flatMap (atP T E F l x) := by unfold came; rw [part_zero, List.append_nil]
theorem came_end : came T E F l x i (T + 1) = came T E F l x (i + 1) 0 := by rw [came_start, range_snoc]; rfl
theorem came_all : came T E F l x l.length 0 = (List.range l.length).flatMap (atP T E F l x) := came_start
theorem came_skip (h : ¬ (l.getD i (0, [])).1 = ((body l x.1).getD x.2.1.toNat (0, 0)).2) : came T E F l x i (k + 1) = came T E F l x i k := by unfold came; rw [part_skip h, part_skip h]
theorem came_no (h : opens E F l x k = false) : came T E F l x i (k + 1) = came T E F l x i k := by unfold came; rw [part_no h]
theorem came_yes (hh : (l.getD i (0, [])).1 = ((body l x.1).getD x.2.1.toNat (0, 0)).2) (h : opens E F l x k = true) : came T E F l x i (k + 1) = came T E F l x i k ++ [((i : Int), (0 : Int), (k : Int))] := by
  unfold came; rw [part_yes hh h, List.append_assoc]
theorem came_len : (came T E F l x i k).length ≤ i * (T + 1) + k := by
  unfold came
  rw [List.length_append]
  have h1 := flat_len (f := atP T E F l x) (B := T + 1) i (fun q _ => by rw [← part_all (T := T)]; exact part_len)
  have h2 := part_len (E := E) (F := F) (l := l) (x := x) (i := i) (k := k)
  omega
end

/-- What has not been seen. -/
def fresh (seen : List I) (A : List I) : List I := A.filter (fun y => !(seen.contains y))
theorem fresh_nil {seen : List I} : fresh seen [] = [] := rfl
theorem fresh_old {seen A : List I} {y : I} (h : y ∈ seen) : fresh seen (A ++ [y]) = fresh seen A := by
  unfold fresh; rw [List.filter_append]; simp [h]
theorem fresh_new {seen A : List I} {y : I} (h : y ∉ seen) : fresh seen (A ++ [y]) = fresh seen A ++ [y] := by
  unfold fresh; rw [List.filter_append]; simp [h]
theorem fresh_len {seen A : List I} : (fresh seen A).length ≤ A.length := List.length_filter_le _ _

/-- The reference's loop. -/
structure Ref (t : Int) (l : List Fc.Pr) (f : I → List I) (L : List I) (Q : List Cube.Pl) (seen todo : List I) : Prop where
  vis : Vis f L (fun x => x ∈ seen) todo
  nd : seen.Nodup
  mrk : ∀ p d k : Nat, p < l.length + 1 → d < (body l (p : Int)).length + 1 → k < t.toNat + 1 → (Cube.mark Q p d k = true ↔ ((p : Int), (d : Int), (k : Int)) ∈ seen)
  sh : Cube.Shape Q (l.length + 1) (fun p => (body l (p : Int)).length + 1) (t.toNat + 1)
  len : todo.length ≤ 20000 + 1240 * seen.length
section
variable {t n : Int} {l : List Fc.Pr} {E : List Bool} {F : List Nat} {L : List I} {Q : List Cube.Pl} {seen todo : List I} {x : I}
theorem ref_start (hs : Cube.Shape Q (l.length + 1) (fun p => (body l (p : Int)).length + 1) (t.toNat + 1)) (hm : ∀ p d k, Cube.mark Q p d k = false) (hl : L.length ≤ 20000) {f : I → List I} : Ref t l f L Q [] L :=
  ⟨by simpa using vis_start (f := f) (L := L), List.nodup_nil, fun p d k _ _ _ => by rw [hm]; simp, hs, by simpa using hl⟩
theorem ref_old {f : I → List I} (h : Ref t l f L Q seen (x :: todo)) (hx : x ∈ seen) : Ref t l f L Q seen todo :=
  ⟨vis_old h.vis hx, h.nd, h.mrk, h.sh, by have := h.len; rw [List.length_cons] at this; omega⟩
theorem nexts_len (he : Gr.err t n l = 0) : (nexts t.toNat E F l x).length ≤ 1240 := by
  have hz := Gr.err_zero he
  by_cases hs : stops l x
  · rw [nexts_stop hs]; exact Nat.zero_le _
  · rw [nexts_go hs, ← came_all]
    have := came_len (T := t.toNat) (E := E) (F := F) (l := l) (x := x) (i := l.length) (k := 0)
    have h2 : l.length * (t.toNat + 1) ≤ 40 * 31 := Nat.mul_le_mul (by omega) (by omega)
    omega
theorem ref_new (he : Gr.err t n l = 0) {p d k : Nat} (h : Ref t l (nexts t.toNat E F l) L Q seen (((p : Int), (d : Int), (k : Int)) :: todo)) (hp : p < l.length + 1) (hd : d < (body l (p : Int)).length + 1) (hk : k < t.toNat + 1) (hm : Cube.mark Q p d k = false) :
    Ref t l (nexts t.toNat E F l) L (Cube.put Q p d k) (((p : Int), (d : Int), (k : Int)) :: seen) (todo ++ fresh (((p : Int), (d : Int), (k : Int)) :: seen) (nexts t.toNat E F l ((p : Int), (d : Int), (k : Int)))) := by
  have hns : ((p : Int), (d : Int), (k : Int)) ∉ seen := fun hin => by
    have := (h.mrk p d k hp hd hk).2 hin
    rw [hm] at this; cases this
  refine ⟨vis_new h.vis (fun y => by rw [List.mem_cons]; exact Or.comm) (fun y hy => List.contains_iff_mem.1 (by rw [Bool.not_eq_false'] at hy; exact hy)), List.nodup_cons.2 ⟨hns, h.nd⟩, fun p' d' k' hp' hd' hk' => ?_, Cube.put_shape h.sh hp hd, ?_⟩
  · rw [Cube.mark_put h.sh hp hd hk, Bool.or_eq_true, h.mrk p' d' k' hp' hd' hk', decide_eq_true_iff, List.mem_cons]
    constructor
    · rintro (hh | ⟨rfl, rfl, rfl⟩)
      · exact .inr hh
      · exact .inl rfl
    · rintro (hh | hh)
      · simp only [Prod.mk.injEq] at hh
        exact .inr ⟨by omega, by omega, by omega⟩
      · exact .inl hh
  · have h1 := fresh_len (seen := (((p : Int), (d : Int), (k : Int)) :: seen)) (A := nexts t.toNat E F l ((p : Int), (d : Int), (k : Int)))
    have h2 := nexts_len (E := E) (F := F) (x := ((p : Int), (d : Int), (k : Int))) he
    have h3 := h.len
    rw [List.length_append, List.length_cons]
    rw [List.length_cons] at h3
    omega
theorem ref_seen (he : Gr.err t n l = 0) (hok : ∀ y ∈ L, okI t l y) (h : Ref t l (nexts t.toNat E F l) L Q seen todo) : seen.length ≤ 11439 ∧ ∀ y, y ∈ seen ∨ y ∈ todo → okI t l y := by
  have hz := Gr.err_zero he
  have hT : ((t.toNat : Nat) : Int) = t := by omega
  have hin : ∀ y, y ∈ seen ∨ y ∈ todo → okI t l y := fun y hy => rch_ok hT hok (h.vis.rch y hy)
  exact ⟨len_bound (t := t) (l := l) hz.2.1 hz.2.2.2.2.1 (fun p h0 h1 => (body_right he h0 h1).1) h.nd (fun y hy => hin y (.inl hy)), hin⟩
theorem ref_end (he : Gr.err t n l = 0) (hok : ∀ y ∈ L, okI t l y) (h : Ref t l (nexts t.toNat E F l) L Q seen []) (y : I) :
    y ∈ cubeL (Cube.mark Q) (fun p => (body l (p : Int)).length + 1) (t.toNat + 1) (l.length + 1) ↔ Rch (nexts t.toNat E F l) L y := by
  rw [← vis_end h.vis, mem_cubeL]
  constructor
  · rintro ⟨a, b, q, h1, h2, h3, h4, rfl⟩
    exact (h.mrk a b q h1 h2 h3).1 h4
  · intro hy
    obtain ⟨a1, a2, a3, a4, a5, a6⟩ := (ref_seen he hok h).2 y (.inl hy)
    obtain ⟨p, d, k⟩ := y
    simp only at a1 a2 a3 a4 a5 a6
    obtain ⟨p, rfl⟩ := Int.eq_ofNat_of_zero_le a1
    obtain ⟨d, rfl⟩ := Int.eq_ofNat_of_zero_le a3
    obtain ⟨k, rfl⟩ := Int.eq_ofNat_of_zero_le a5
    exact ⟨p, d, k, by omega, by omega, by omega, (h.mrk p d k (by omega) (by omega) (by omega)).2 hy, rfl⟩
end
end It
end Go.Proofs.Ytkhjncbjdldpbaa

/-
  A slice that the call made, cut off at its front again and again, and grown at its end. (A helper text; it claims nothing of the program.)
-/
namespace Go.Proofs.Ytkhjncbjdldpbaa
set_option linter.unusedVariables false
open Go.ChangeShapes Go.WideShapes Go.ChangeAt Go.RowKit

namespace Que
/-- It lies behind k others in a slice that the call made. -/
def Ok (w : World) (e : TypeId) (size : Nat) (v : Value) (xs : List Value) : Prop :=
  (v = .slice none 0 0 ∧ xs = []) ∨
  ∃ (g k cap C : Nat) (ys : List Value), v = .slice (some ⟨g, k * size, none⟩) xs.length cap ∧ xs.length ≤ cap ∧ k + cap ≤ C ∧ ys.length = k ∧ (∀ u ∈ ys ++ xs, u.cells.size = size) ∧ Own w 0 e size (.slice (some ⟨g, 0, none⟩) (ys ++ xs).length C) (ys ++ xs)
def aQue (e : TypeId) (size : Nat) (v : Value) (xs : List Value) : Asrt := ⟨v.ownBlock.toList, fun w => Ok w e size v xs, fun w w' hb h => by
  rcases h with h | ⟨g, k, cap, C, ys, rfl, h1, h2, h3, h4, h5⟩
  · exact .inl h
  · exact .inr ⟨g, k, cap, C, ys, rfl, h1, h2, h3, h4, h5.loc hb⟩⟩
section
variable {w0 w : World} {μ : List Asrt} {e : TypeId} {size : Nat} {v : Value} {xs : List Value}
theorem of (h : St w0 w (aOwn e size v xs :: μ)) (hu : ∀ u ∈ xs, u.cells.size = size) : St w0 w (aQue e size v xs :: μ) := by
  refine h.turn rfl ?_
  have ho : Own w 0 e size v xs := h.ok _ (.head _)
  rcases ho.2 with ⟨rfl, h2⟩ | ⟨g, cap, cur, rfl, h2, h3, h4, h5⟩
  · exact .inl ⟨rfl, List.eq_nil_of_length_eq_zero h2⟩
  · exact .inr ⟨g, 0, cap, cap, [], by rw [Nat.zero_mul], h4, by omega, rfl, hu, ho⟩
theorem tail {ao : Option Addr} {n cap : Nat} {x : Value} (h : St w0 w (aQue e size (.slice ao n cap) (x :: xs) :: μ)) : St w0 w (aQue e size (Go.sliced ao 1 n cap size) xs :: μ) := by
  have ho : Ok w e size (.slice ao n cap) (x :: xs) := h.ok _ (.head _)
  rcases ho with ⟨-, h2⟩ | ⟨g, k, cap', C, ys, h1, h2, h3, h4, h5, h6⟩
  · cases h2
  · simp only [Value.slice.injEq] at h1
    obtain ⟨rfl, rfl, rfl⟩ := h1
    simp only [List.length_cons] at h2
    by_cases hc : cap = 1
    · subst hc
      have hx : xs = [] := List.eq_nil_of_length_eq_zero (by omega)
      subst hx
      have ht := h6.take h5 ys.length (by simp)
      rw [List.take_left] at ht
      refine h.turn (by simp [aQue, Go.sliced, Value.ownBlock]) ?_
      refine .inr ⟨g, k, 0, C, ys, ?_, Nat.le_refl _, by omega, h4, fun u hu => h5 u (by rw [List.append_nil] at hu; exact List.mem_append_left _ hu), by rw [List.append_nil]; exact ht⟩
      simp [Go.sliced]
    · have hadd : (⟨g, k * size, none⟩ : Addr).add size = ⟨g, (k + 1) * size, none⟩ := by
        rw [Addr.add_lit, Nat.add_mul, Nat.one_mul]
      have hap : (ys ++ [x]) ++ xs = ys ++ x :: xs := by simp
      refine h.turn (by simp [aQue, Go.sliced, Value.ownBlock, hc, hadd]) ?_
      refine .inr ⟨g, k + 1, cap - 1, C, ys ++ [x], ?_, by omega, by omega, by rw [List.length_append, h4]; rfl, by rw [hap]; exact h5, by rw [hap]; exact h6⟩
      simp [Go.sliced, hc, hadd]
theorem len {ao : Option Addr} {n cap : Nat} (h : St w0 w (aQue e size (.slice ao n cap) xs :: μ)) : n = xs.length := by
  have ho : Ok w e size (.slice ao n cap) xs := h.ok _ (.head _)
  rcases ho with ⟨h1, h2⟩ | ⟨g, k, cap', C, ys, h1, -⟩
  · simp only [Value.slice.injEq] at h1
    rw [h1.2.1, h2]; rfl
  · simp only [Value.slice.injEq] at h1
    exact h1.2.1
theorem isSlice (h : St w0 w (aQue e size v xs :: μ)) : ∃ ao cap, v = .slice ao xs.length cap := by
  have ho : Ok w e size v xs := h.ok _ (.head _)
  rcases ho with ⟨h1, h2⟩ | ⟨g, k, cap', C, ys, h1, -⟩
  · exact ⟨none, 0, by rw [h1, h2]; rfl⟩
  · exact ⟨_, _, h1⟩
/-- Where its elements lie. -/
theorem at_ (h : St w0 w (aQue e size v xs :: μ)) (hp : 0 < xs.length) : ∃ g off cap, v = .slice (some ⟨g, off, none⟩) xs.length cap ∧ ∀ i (hi : i < xs.length) (j : Nat), j < size → w.cell? ⟨g, off + i * size + j, none⟩ = (xs[i].cells.toList)[j]? := by
  have ho : Ok w e size v xs := h.ok _ (.head _)
  rcases ho with ⟨h1, h2⟩ | ⟨g, k, cap', C, ys, rfl, h2, h3, h4, h5, h6⟩
  · rw [h2] at hp; cases hp
  · refine ⟨g, k * size, cap', rfl, fun i hi j hj => ?_⟩
    have hi2 : k + i < (ys ++ xs).length := by rw [List.length_append, h4]; omega
    have hcl := cellsOf_get h5 (k + i) hi2 j hj
    have hx : (ys ++ xs)[k + i] = xs[i] := by
      rw [List.getElem_append_right (by omega)]
      simp [h4]
    rw [hx] at hcl
    rw [← hcl]
    have hjlen : (k + i) * size + j < (cellsOf (ys ++ xs)).length := by
      rw [cellsOf_len h5]
      have : (k + i + 1) * size ≤ (ys ++ xs).length * size := Nat.mul_le_mul_right _ (by omega)
      rw [Nat.add_mul (k + i) 1] at this; omega
    have := World.ownsRow.cells (g := g) h6 rfl ((k + i) * size + j) _ (List.getElem?_eq_getElem hjlen)
    have hadd : (⟨g, 0, none⟩ : Addr).add ((k + i) * size + j) = ⟨g, k * size + i * size + j, none⟩ := by
      rw [Addr.add_lit, Nat.zero_add, Nat.add_mul, Nat.add_assoc]
    rw [hadd] at this
    rw [this, List.getElem?_eq_getElem hjlen]
end

/-- One element more. -/
theorem run {P : Program} {w : World} {t ty e : TypeId} {size bytes : Nat} (E : ET P t e size bytes) {v : Value} {xs : List Value} (h : Ok w e size v xs) (u : Value) (a : Addr) (c : Nat) (hsz : u.cells.size = size) (hu : ∀ j q, u.cells.toList[j]? = some q → w.cell? (a.add j) = some q)
    (h1 : ∀ q ∈ u.cells.toList, q.oneCell' = true) (hlen : xs.length + 1 ≤ maxLen) (hroom : (xs.length + 1) * bytes ≤ 140737488355328) :
    ∃ v' w', (Builtin.append_ #[t, t] ty #[v, .slice (some a) 1 c]).run P w = .ok v' w' ∧ Ok w' e size v' (xs ++ [u]) ∧ w.grownBy w' v.ownBlock ∧ (∀ k, v'.ownBlock = some k → v.ownBlock = some k ∨ w.heap.size ≤ k) ∧ (∃ ao n cap, v' = .slice ao n cap) := by
  have hul : u.cells.toList.length = size := by rw [Array.length_toList]; exact hsz
  rcases h with ⟨rfl, rfl⟩ | ⟨g, k, cap, C, ys, rfl, h2, h3, h4, h5, h6⟩
  · obtain ⟨v', w', hr, q2, q3, q4, q5⟩ := run_append_where (ty := ty) E (v := .slice none 0 0) (xs := []) (Own.nil w 0 e size) a 1 c u.cells.toList (by omega) hu h1 (by simpa using hlen) (by simpa using hroom)
    obtain ⟨g, cap, rfl⟩ := q5 (by decide)
    have ho : Own w' 0 e size (.slice (some ⟨g, 0, none⟩) ([u] : List Value).length cap) [u] := by
      unfold Own
      rw [oneCells]
      simpa [cellsOf] using q2
    refine ⟨_, w', hr, .inr ⟨g, 0, cap, cap, [], by simp, ?_, by omega, rfl, by simpa using hsz, by simpa using ho⟩, q3, q4, ⟨_, _, _, rfl⟩⟩
    rcases q2.2 with ⟨q, _⟩ | ⟨g', cap', cur, q, _, _, hn, _⟩
    · cases q
    · simp only [Value.slice.injEq] at q
      obtain ⟨_, q6, rfl⟩ := q
      simpa using hn
  · by_cases hc : xs.length + 1 ≤ cap
    · obtain ⟨ht, ⟨i, z, hi, hz, hsize, hby, hzs⟩, hp⟩ := E
      subst hsize
      rcases h6.2 with ⟨q, _⟩ | ⟨g', C', cur, q, hb, hg, hn, hcm, hcs, htake⟩
      · cases q
      · simp only [Value.slice.injEq, Option.some.injEq, Addr.mk.injEq, true_and, and_true] at q
        obtain ⟨rfl, rfl⟩ := q
        have hll : (ys ++ xs).length = k + xs.length := by rw [List.length_append, h4]
        have hfit : (ys ++ xs).length * i.size + u.cells.toList.length ≤ cur.size := by
          rw [hul, hcs, ← Nat.succ_mul]; exact Nat.mul_le_mul_right _ (by omega)
        have hs : Src P i.size t (.slice (some a) 1 c) 1 u.cells.toList w := Src.ofSlice w ht a 1 c _ (by omega) hu h1
        have hcell : ∀ j, j < u.cells.toList.length → (w.cell? ⟨g, (ys ++ xs).length * i.size + j, none⟩).isSome = true := fun j hj => by
          rw [cell_of_row w g _ cur e (0, 0) hg, Array.getElem?_eq_getElem (by omega)]; rfl
        have hfz : ∀ j, w.frozen? ⟨g, j, none⟩ = false := fun j => frozen_of_row w g j cur e hg
        have e2 : k * i.size + xs.length * i.size = (ys ++ xs).length * i.size := by rw [hll, Nat.add_mul]
        have r1 := run_append_room (P := P) w t ty e i ht hi g (ys ++ xs).length C cur hg a 1 c u.cells.toList (by omega) hu h1 (by omega) hfit
        have r2 := run_append_room_src (P := P) w t t ty e i ht hi g 0 (ys ++ xs).length C _ 1 u.cells.toList hs (by omega) (fun j hj => by rw [Nat.zero_add]; exact hcell j hj) (fun j _ => hfz _)
        have r3 := run_append_room_src (P := P) w t t ty e i ht hi g (k * i.size) xs.length cap _ 1 u.cells.toList hs hc (fun j hj => by rw [e2]; exact hcell j hj) (fun j _ => hfz _)
        rw [r1] at r2
        have hw : w.setRow g (cur.toList.take ((ys ++ xs).length * i.size) ++ u.cells.toList ++ cur.toList.drop ((ys ++ xs).length * i.size + u.cells.toList.length)).toArray = w.setCells g (0 + (ys ++ xs).length * i.size) u.cells.toList := by
          injection r2
        rw [Nat.zero_add] at hw
        rw [e2, ← hw] at r3
        have hlen2 : (cellsOf (ys ++ xs) ++ u.cells.toList).length = ((ys ++ xs).length + 1) * i.size := by rw [List.length_append, h6.1, hul, Nat.add_mul, Nat.one_mul]
        have ho : Own (w.setRow g (cur.toList.take ((ys ++ xs).length * i.size) ++ u.cells.toList ++ cur.toList.drop ((ys ++ xs).length * i.size + u.cells.toList.length)).toArray) 0 e i.size (.slice (some ⟨g, 0, none⟩) (ys ++ (xs ++ [u])).length C) (ys ++ (xs ++ [u])) := by
          have ea : ys ++ (xs ++ [u]) = (ys ++ xs) ++ [u] := by simp
          rw [ea]
          unfold Own
          rw [cellsOf_append (ys ++ xs) [u], oneCells, show ((ys ++ xs) ++ [u]).length = (ys ++ xs).length + 1 by rw [List.length_append, List.length_singleton]]
          refine ⟨hlen2, .inr ⟨g, C, _, rfl, Nat.zero_le _, setRow_heap w g cur _ e _ hg, by omega, hcm, ?_, ?_⟩⟩
          · simp only [List.size_toArray, List.length_append, List.length_take, List.length_drop, Array.length_toList] at hfit ⊢
            omega
          · rw [htake, ← hlen2]
            exact List.take_left
        refine ⟨_, _, r3, .inr ⟨g, k, cap, C, ys, by rw [List.length_append]; rfl, by rw [List.length_append]; exact hc, h3, h4, ?_, ho⟩, ⟨rfl, rfl, rfl, by simp, fun b _ hk => setRow_other w g b _ (fun e => hk (by simp [Value.ownBlock, e]))⟩, fun b hb => .inl hb, ⟨_, _, _, rfl⟩⟩
        intro u' hu'
        rw [← List.append_assoc] at hu'
        rcases List.mem_append.1 hu' with hu' | hu'
        · exact h5 u' hu'
        · rw [List.mem_singleton.1 hu']; exact hsz
    · have hcn : cap = xs.length := by omega
      subst hcn
      have hread : ∀ j q, (cellsOf xs)[j]? = some q → w.cell? ((⟨g, k * size, none⟩ : Addr).add j) = some q := fun j q hq => by
        have hq2 : (cellsOf (ys ++ xs))[k * size + j]? = some q := by
          rw [cellsOf_append, List.getElem?_append_right (by rw [cellsOf_len (size := size) (fun u hu => h5 u (List.mem_append_left _ hu)), h4]; omega), cellsOf_len (size := size) (fun u hu => h5 u (List.mem_append_left _ hu)), h4, Nat.add_sub_cancel_left]
          exact hq
        have := World.ownsRow.cells (g := g) h6 rfl _ _ hq2
        have hadd : (⟨g, 0, none⟩ : Addr).add (k * size + j) = (⟨g, k * size, none⟩ : Addr).add j := by
          unfold Addr.add; split <;> simp_all
        rw [hadd] at this
        exact this
      obtain ⟨cap', w', hr, ho, hb⟩ := run_append_full (ty := ty) E ⟨g, k * size, none⟩ xs xs.length rfl (fun u hu => h5 u (List.mem_append_right _ hu)) hread u a c hsz hu hlen hroom
      refine ⟨_, w', hr, .inr ⟨w.heap.size, 0, cap', cap', [], by simp, ?_, by omega, rfl, ?_, ?_⟩, ⟨hb.os, hb.tape, hb.output, hb.size, fun b hb' _ => hb.block b hb'⟩, fun b hb' => .inr ?_, ⟨_, _, _, rfl⟩⟩
      · rcases ho.2 with ⟨q, _⟩ | ⟨g', cap2, cur, q, _, _, hn, _⟩
        · cases q
        · simp only [Value.slice.injEq] at q
          obtain ⟨_, q6, rfl⟩ := q
          exact hn
      · intro u' hu'
        rw [List.nil_append] at hu'
        rcases List.mem_append.1 hu' with hu' | hu'
        · exact h5 u' (List.mem_append_right _ hu')
        · rw [List.mem_singleton.1 hu']; exact hsz
      · rw [List.nil_append, List.length_append, List.length_singleton]
        exact ho.zero
      · simp [Value.ownBlock] at hb'
        omega

/-- append(s, u), u laid into a new block just before. -/
theorem app1n {P : Program} {w0 W : World} {μ : List Asrt} {t e : TypeId} {size bytes : Nat} (E : ET P t e size bytes) {ops : Array Oper} {rest : List Oper} {o : Oper} {a : Act} {Q : Exit → Act → World → Prop} {cs : Array Value} {T : TypeId}
    (hgd : o.guard = none) (s x : Operand) (ho : o.op = .call { callee := .builtin .append, args := #[s, x], argTypes := #[t, t] }) {v : Value} {xs : List Value} (hs : a.eval s = v)
    (h : St w0 W (aQue e size v xs :: μ)) (u : Value) (hcs : cs = u.cells) (g c : Nat) (hx : a.eval x = .slice (some ⟨g, 0, none⟩) 1 c) (hg : g = W.heap.size)
    (hsz : u.cells.size = size) (h1 : ∀ q ∈ u.cells.toList, q.oneCell' = true) (hlen : xs.length + 1 ≤ maxLen) (hroom : (xs.length + 1) * bytes ≤ 140737488355328)
    (hK : ∀ ao n cap w', St w0 w' (aQue e size (.slice ao n cap) (xs ++ [u]) :: μ) → wpList P ops Q rest (a.put o.dst (.slice ao n cap)) w') : wpList P ops Q (o :: rest) a (W.alloc (.cells cs T)) := by
  subst hg hcs
  have h' := h.skip (.cells u.cells T)
  refine wpList_plain hgd fun K hK' => ?_
  obtain ⟨v', w', hr, h2, h3, h4, ao, n, cap, rfl⟩ := run (ty := o.type) E (v := v) (xs := xs) (h'.ok _ (.head _)) u ⟨W.heap.size, 0, none⟩ c hsz (fun j q hq => by
    have hadd : (⟨W.heap.size, 0, none⟩ : Addr).add j = ⟨W.heap.size, j, none⟩ := by unfold Addr.add; split <;> simp_all
    rw [hadd]
    exact cells_lit _ _ j q hq) h1 hlen hroom
  unfold Oper.wp execOp
  simp only [ho, resolve, invoke, builtin, Sem.run_bind, Sem.run_pure, Result.andThen_ok, List.map_toArray, List.map_cons, List.map_nil, hs, hx, hr]
  refine hK' _ _ (hK ao n cap w' ?_)
  refine h'.upd h3.os h3.tape h3.output h3.size (fun b hb hm => ?_) h2 (fun b hb => ?_) (nodup_ob _)
  · exact h3.block b hb fun e => hm (by simp [aQue, ← e])
  · have hb' : (Value.slice ao n cap).ownBlock = some b := by simpa [aQue] using hb
    rcases h4 b hb' with h6 | h6
    · exact .inl (by simpa [aQue] using h6)
    · refine .inr ⟨h6, ?_⟩
      rcases h2 with ⟨q, _⟩ | ⟨g, k, cap2, C, ys, q, _, _, _, _, q6⟩
      · rw [q] at hb'; simp [Value.ownBlock] at hb'
      · rw [q] at hb'
        simp only [Value.ownBlock, Option.some.injEq] at hb'
        exact (q6.lt b (by simp [Value.ownBlock, hb'])).2
end Que
end Go.Proofs.Ytkhjncbjdldpbaa

/-
  BodyOf of the reference, and what is behind a place of it.
-/
namespace Go.Proofs.Ytkhjncbjdldpbaa
set_option linter.unusedVariables false
set_option linter.unusedSimpArgs false
open Go.ChangeShapes Go.WideShapes Go.ChangeAt Go.RowKit

namespace It
theorem slEmpty {α : Type} {E : Enc α} {bytes : Nat} {F F' : Nat → Prop} {w w' : World} {v : Value} (h : (E.sl bytes).R F w [v] []) : (E.sl bytes).R F' w' [v] [] := by
  obtain ⟨ao, b, off, cap, e, h1, h2, h3, h4, -, -⟩ := h
  exact ⟨ao, b, off, cap, e, h1, h2, h3, h4, fun h => absurd h (Nat.lt_irrefl 0), fun i h => absurd h (Nat.not_lt_zero i)⟩
/-- A body, and that what is behind a place of it was there before. -/
def RetBr (l : List Fc.Pr) (p : Int) (w0 : World) (μ : List Asrt) (e : Ending) (w' : World) : Prop := ∃ (ao : Option Addr) (c : Nat) (fp : List Nat), e = .returned (.slice ao (body l p).length c) ∧ St w0 w' (aBody w0 fp ao c (body l p) :: μ) ∧ (body l p).length ≤ c ∧
  ∀ d : Nat, d < (body l p).length → (Enc.two.sl 16).R (fun b => b < w0.heap.size) w0 [Go.sliced ao (d + 1) (body l p).length c 2] (rest l p (d : Int))
theorem rest_of {E : Enc (Int × Int)} {F : Nat → Prop} {w : World} {ao : Option Addr} {c : Nat} {l : List Fc.Pr} {p : Int} (h : (E.sl 16).R F w [.slice ao (body l p).length c] (body l p)) {d : Nat} (hd : d < (body l p).length) : (E.sl 16).R F w [Go.sliced ao (d + 1) (body l p).length c E.size] (rest l p (d : Int)) := by
  have := Enc.sliced h (d + 1) (body l p).length (by omega) (Nat.le_refl _)
  rw [List.take_length] at this
  exact this
theorem cap_of {α : Type} {E : Enc α} {F : Nat → Prop} {w : World} {ao : Option Addr} {n c : Nat} {l : List α} (h : (E.sl 16).R F w [.slice ao n c] l) : l.length ≤ c := by
  obtain ⟨_, _, _, _, hq, hle, _⟩ := h
  simp only [List.cons.injEq, Value.slice.injEq, and_true, true_and] at hq
  omega
end It

set_option maxRecDepth 100000 in
theorem rBodyRest_st (wb : World) (t n : Int) (vp : Value) (l : List Fc.Pr) (hpr : Enc.prods.R (fun b => b < wb.heap.size) wb [vp] l) (hl : l.length ≤ 1000) (p : Int) (h0 : 0 ≤ p) (h1 : p ≤ l.length) (w0 w : World) (μ : List Asrt) (hbw : Below wb.heap.size wb w0) (hst : St w0 w μ) :
    Calls Try.prog 70 #[.agg #[.int .i64 t, .int .i64 n, vp], .int .i64 p] w (It.RetBr l p w0 μ) := by
  obtain ⟨ao, b, off, cap, rfl, -, k3, k4⟩ := slProds hpr
  by_cases hp : p = l.length
  · subst hp
    refine (rBody_st wb t n _ l hpr hl _ h0 h1 w0 w μ hbw hst).mono ?_
    rintro e w' ⟨a, c, fp, rfl, hs⟩
    refine ⟨a, c, fp, rfl, hs, It.cap_of hs.rd, fun d hd => ?_⟩
    have hb : It.body l ((l.length : Nat) : Int) = [(2, 0)] := by rw [It.body, if_pos rfl]
    have h2 := It.rest_of hs.rd hd
    have hr : It.rest l ((l.length : Nat) : Int) (d : Int) = [] := by
      unfold It.rest
      rw [hb]
      exact List.drop_eq_nil_of_le (by simp)
    rw [hr] at h2 ⊢
    exact It.slEmpty h2
  · obtain ⟨i, rfl⟩ := Int.eq_ofNat_of_zero_le h0
    have hi : i < l.length := by omega
    obtain ⟨rfl, hblt, -⟩ := k3 (by omega)
    obtain ⟨vb, e0, e1, e2, -⟩ := k4 i hi
    have hb : It.body l (i : Int) = (l.getD i (0, [])).2 := by rw [It.body, if_neg hp, Int.toNat_natCast]
    have hbel := hbw.trans (hst.bel.mono hbw.size)
    replace e1 := bkeep hbel e1
    obtain ⟨ab, bb, ob, cb, rfl, -, -, -⟩ := Enc.slN (0, 0) e2
    have hst2 := hst.skip (.cells #[.int .i64 t, .int .i64 n, .slice (some ⟨b, off, none⟩) l.length cap] 24)
    have hold : (Enc.two.sl 16).R (fun q => q < wb.heap.size) w0 [.slice ab (l.getD i (0, [])).2.length cb] (l.getD i (0, [])).2 := Enc.mono _ e2 (fun _ h => h) (fun q hq => hbw.block q hq)
    have hst3 := hst2.pushOld (E := Enc.two.sl 16) (F := fun q => q < wb.heap.size) (vs := [.slice ab (l.getD i (0, [])).2.length cb]) (l := (l.getD i (0, [])).2) hold (fun q hq => Nat.lt_of_lt_of_le hq hbw.size)
    have HE := Lib.hid hst3
    have hne : ((i : Int) == (l.length : Int)) = false := by rw [beq_eq_false_iff_ne]; omega
    have hiI : (i : Int) < (l.length : Int) := by omega
    have hiD : decide ((i : Int) < (l.length : Int)) = true := decide_eq_true hiI
    have blt := World.block_lt_of_cell? _ _ e1
    simp only at blt
    have HR : Hid (∀ d : Nat, d < (l.getD i (0, [])).2.length → (Enc.two.sl 16).R (fun b => b < w0.heap.size) w0 [Go.sliced ab (d + 1) (l.getD i (0, [])).2.length cb 2] (It.rest l (i : Int) (d : Int))) := Lib.hid (fun d hd => by
      rw [← hb] at hold hd ⊢
      exact Enc.mono _ (It.rest_of hold hd) (fun q hq => Nat.lt_of_lt_of_le hq hbw.size) (fun _ _ => rfl))
    have HC := Lib.hid (It.cap_of hold)
    unfold It.RetBr It.aBody
    rw [hb]
    clear hpr k3 k4 e0 e2 hst hst2 hst3 hb h0 h1 hp hl hbw hbel hold
    generalize It.rest l (i : Int) = rs at *
    generalize (l.getD i (0, [])).2 = bd at *
    go_enter Try.func70, Try.ntmps70
    go_wp2
    go_ret
    exact ⟨_, _, _, rfl, HE.out, HC.out, HR.out⟩
end Go.Proofs.Ytkhjncbjdldpbaa

/-
  Col and RightSym of the reference.
-/
namespace Go.Proofs.Ytkhjncbjdldpbaa
set_option linter.unusedVariables false
set_option linter.unusedSimpArgs false
open Go.ChangeShapes Go.WideShapes Go.ChangeAt Go.RowKit

namespace It
theorem top_bit (M : Nat) (h : M < 18446744073709551616) : ((M : Int) / 9223372036854775808 == 1) = M.testBit 63 := by
  have e : (M : Int) / 9223372036854775808 = ((M / 9223372036854775808 : Nat) : Int) := by omega
  rw [e, Nat.testBit_eq_decide_div_mod_eq]
  have : M / 2 ^ 63 = M / 9223372036854775808 := rfl
  rw [this, Bool.eq_iff_iff, beq_iff_eq, decide_eq_true_iff]
  omega
theorem rem_bit (M k : Nat) : (((M : Int) / 2 ^ k).tmod 2 == 1) = M.testBit k := by
  have e : (M : Int) / 2 ^ k = ((M / 2 ^ k : Nat) : Int) := by rw [Int.natCast_ediv]; norm_cast
  rw [e, Int.tmod_eq_emod_of_nonneg (Int.natCast_nonneg _), Nat.testBit_eq_decide_div_mod_eq, Bool.eq_iff_iff, beq_iff_eq, decide_eq_true_iff]
  omega
end It

set_option maxRecDepth 100000 in
theorem rCol_any (t n : Int) (ap : Option Addr) (np cp : Nat) (M k : Nat) (hM : M < 18446744073709551616) (hk : (k : Int) ≤ t) (ht : t ≤ 30) (w : World) :
    Calls Try.prog 82 #[.agg #[.int .i64 t, .int .i64 n, .slice ap np cp], .int .u64 (M : Int), .int .i64 (k : Int)] w fun e w' => e = .returned (.bool (if (k : Int) = t then M.testBit 63 else M.testBit k)) ∧ Below w.heap.size w w' := by
  have hst := (St.init w).alloc #[.int .i64 t, .int .i64 n, .slice ap np cp] 24
  have HB := Lib.hid hst.bel
  obtain ⟨c0, c1, c2⟩ := hst.at3 0 rfl
  clear hst
  by_cases h : (k : Int) = t
  · have h63 := It.top_bit M hM
    have heq : ((k : Int) == t) = true := by rw [beq_iff_eq]; exact h
    rw [if_pos h]
    clear h
    go_enter Try.func82, Try.ntmps82
    go_wp2
    go_ret
    exact ⟨rfl, HB.out⟩
  · have hb := It.rem_bit M k
    have heq : ((k : Int) == t) = false := by rw [beq_eq_false_iff_ne]; exact h
    rw [if_neg h]
    clear h
    have hk64 : (k : Int) < 64 := by omega
    go_enter Try.func82, Try.ntmps82
    go_wp2
    go_ret
    exact ⟨rfl, HB.out⟩

set_option maxRecDepth 100000 in
theorem rRightSym_any (t n s1 s2 : Int) (ap : Option Addr) (np cp : Nat) (w : World) :
    Calls Try.prog 30 #[.agg #[.int .i64 t, .int .i64 n, .slice ap np cp], .agg #[.int .i64 s1, .int .i64 s2]] w fun e w' => e = .returned (.bool (Gr.right t n (s1, s2))) ∧ Below w.heap.size w w' := by
  have hst := ((St.init w).alloc #[.int .i64 t, .int .i64 n, .slice ap np cp] 24).alloc #[.int .i64 s1, .int .i64 s2] 61
  simp only [World.size_alloc] at hst
  have HB := Lib.hid hst.bel
  obtain ⟨c0, c1, c2⟩ := hst.at3 1 rfl
  have x0 := (hst.nth 0 rfl).celAt (i := 0) (v := .int .i64 s1) rfl
  have x1 := (hst.nth 0 rfl).celAt (i := 1) (v := .int .i64 s2) rfl
  clear hst
  have hri := Gr.right_iff (t := t) (n := n) (x := (s1, s2))
  simp only at hri
  by_cases h0 : 0 ≤ s2
  · have d0 : decide (0 ≤ s2) = true := decide_eq_true h0
    by_cases k1 : s1 = 1
    · subst k1
      by_cases h1 : s2 < t
      · have d1 : decide (s2 < t) = true := decide_eq_true h1
        have hr : Gr.right t n (1, s2) = true := hri.2 (.inl ⟨rfl, h0, h1⟩)
        rw [hr]
        clear hri hr
        go_enter Try.func30, Try.ntmps30
        go_wp2
        go_ret
        exact ⟨rfl, HB.out⟩
      · have d1 : decide (s2 < t) = false := decide_eq_false h1
        have hr : Gr.right t n (1, s2) = false := by rw [← Bool.not_eq_true, hri]; omega
        rw [hr]
        clear hri hr
        go_enter Try.func30, Try.ntmps30
        go_wp2
        go_ret
        exact ⟨rfl, HB.out⟩
    · have e1 : (s1 == 1) = false := by rw [beq_eq_false_iff_ne]; exact k1
      by_cases k2 : s1 = 2
      · subst k2
        by_cases h1 : s2 < n
        · have d1 : decide (s2 < n) = true := decide_eq_true h1
          have hr : Gr.right t n (2, s2) = true := hri.2 (.inr ⟨rfl, h0, h1⟩)
          rw [hr]
          clear hri hr k1 e1
          go_enter Try.func30, Try.ntmps30
          go_wp2
          go_ret
          exact ⟨rfl, HB.out⟩
        · have d1 : decide (s2 < n) = false := decide_eq_false h1
          have hr : Gr.right t n (2, s2) = false := by rw [← Bool.not_eq_true, hri]; omega
          rw [hr]
          clear hri hr k1 e1
          go_enter Try.func30, Try.ntmps30
          go_wp2
          go_ret
          exact ⟨rfl, HB.out⟩
      · have e2 : (s1 == 2) = false := by rw [beq_eq_false_iff_ne]; exact k2
        have hr : Gr.right t n (s1, s2) = false := by rw [← Bool.not_eq_true, hri]; omega
        rw [hr]
        clear hri hr
        go_enter Try.func30, Try.ntmps30
        go_wp2
        go_ret
        exact ⟨rfl, HB.out⟩
  · have d0 : decide (0 ≤ s2) = false := decide_eq_false h0
    have hr : Gr.right t n (s1, s2) = false := by rw [← Bool.not_eq_true, hri]; omega
    rw [hr]
    clear hri hr
    go_enter Try.func30, Try.ntmps30
    go_wp2
    go_ret
    exact ⟨rfl, HB.out⟩
end Go.Proofs.Ytkhjncbjdldpbaa

/-
  A production's body, the WHOLE's too: body of package items, BodyOf of the reference.
-/
namespace Go.Proofs.Ytkhjncbjdldpbaa
set_option linter.unusedVariables false
set_option linter.unusedSimpArgs false
open Go.ChangeShapes Go.WideShapes Go.ChangeAt Go.RowKit

/-- What a call for a body leaves. -/
def It.RetBody (l : List Fc.Pr) (p : Int) (w : World) (e : Ending) (w' : World) : Prop := ∃ (ao : Option Addr) (c : Nat), e = .returned (.slice ao (It.body l p).length c) ∧ (Enc.two.sl 16).R (fun b => b < w'.heap.size) w' [.slice ao (It.body l p).length c] (It.body l p) ∧ Below w.heap.size w w'
theorem It.oneTwo {w : World} {g : Nat} {T : TypeId} (h : w.heap[g]? = some (.cells #[.int .i64 2, .int .i64 0] T (0, 0))) : (Enc.two.sl 16).R (fun b => b < w.heap.size) w [.slice (some ⟨g, 0, none⟩) 1 1] [(2, 0)] := by
  have hlt : g < w.heap.size := (Array.getElem?_eq_some_iff.1 h).1
  refine Own.two (B := 0) (e := T) (v := .slice (some ⟨g, 0, none⟩) 1 1) (l := [(2, 0)]) ⟨rfl, .inr ⟨g, 1, #[.int .i64 2, .int .i64 0], rfl, Nat.zero_le _, h, by simp, by decide, rfl, rfl⟩⟩ (fun b hb => ?_) (by simp) (fun p hp => ?_)
  · simp [Value.ownBlock] at hb; subst hb; exact hlt
  · rw [List.mem_singleton.1 hp]; decide

set_option maxRecDepth 100000 in
theorem itBody_any (t n : Int) (vp : Value) (l : List Fc.Pr) (p : Int) (h0 : 0 ≤ p) (h1 : p ≤ l.length) (hl : l.length ≤ 1000) (w : World) (F : Nat → Prop) (hF : ∀ b, F b → b < w.heap.size) (h : Enc.prods.R F w [vp] l) :
    Calls Try.prog 107 #[.agg #[.int .i64 t, .int .i64 n, vp], .int .i64 p] w (It.RetBody l p w) := by
  obtain ⟨ao, b, off, cap, rfl, -, k3, k4⟩ := slProds h
  by_cases hp : p = l.length
  · subst hp
    have hb : It.body l ((l.length : Nat) : Int) = [(2, 0)] := by rw [It.body, if_pos rfl]
    have hst := ((St.init w).alloc #[.int .i64 t, .int .i64 n, .slice ao l.length cap] 24).alloc #[.int .i64 2, .int .i64 0] 61
    have he := It.oneTwo (hst.heapAt 0 rfl)
    rw [show (w.alloc (.cells #[.int .i64 t, .int .i64 n, .slice ao l.length cap] 24)).heap.size = w.heap.size + 1 from World.size_alloc _ _] at he
    have HE := Lib.hid he
    clear he
    have HB := Lib.hid hst.bel
    unfold It.RetBody
    rw [hb]
    clear h k3 k4 hst hb h0 h1 hF hl
    go_enter Try.func107, Try.ntmps107
    go_wp2
    go_ret
    exact ⟨_, _, rfl, HE.out, HB.out⟩
  · obtain ⟨i, rfl⟩ := Int.eq_ofNat_of_zero_le h0
    have hi : i < l.length := by omega
    obtain ⟨rfl, -, -⟩ := k3 (by omega)
    obtain ⟨vb, e0, e1, e2, -⟩ := k4 i hi
    have hb : It.body l (i : Int) = (l.getD i (0, [])).2 := by rw [It.body, if_neg hp, Int.toNat_natCast]
    obtain ⟨ab, bb, ob, cb, rfl, -, -, -⟩ := Enc.slN (0, 0) e2
    have hst := (St.init w).alloc #[.int .i64 t, .int .i64 n, .slice (some ⟨b, off, none⟩) l.length cap] 24
    have HB := Lib.hid hst.bel
    have HE := Lib.hid (Enc.mono _ e2 (F' := fun q => q < (w.alloc (.cells #[.int .i64 t, .int .i64 n, .slice (some ⟨b, off, none⟩) l.length cap] 24)).heap.size) (fun q hq => Nat.lt_of_lt_of_le (hF q hq) hst.bel.size) (fun q hq => hst.bel.block q (hF q hq)))
    have hne : ((i : Int) == (l.length : Int)) = false := by rw [beq_eq_false_iff_ne]; omega
    have hiI : (i : Int) < (l.length : Int) := by omega
    have hiD : decide ((i : Int) < (l.length : Int)) = true := decide_eq_true hiI
    have blt := World.block_lt_of_cell? _ _ e1
    simp only at blt
    unfold It.RetBody
    rw [hb]
    clear h k3 k4 e0 e2 hst hb h0 h1 hp hF hl
    generalize (l.getD i (0, [])).2 = bd at *
    go_enter Try.func107, Try.ntmps107
    go_wp2
    go_ret
    exact ⟨_, _, rfl, HE.out, HB.out⟩

set_option maxRecDepth 100000 in
theorem rBody_any (t n : Int) (vp : Value) (l : List Fc.Pr) (p : Int) (h0 : 0 ≤ p) (h1 : p ≤ l.length) (hl : l.length ≤ 1000) (w : World) (F : Nat → Prop) (hF : ∀ b, F b → b < w.heap.size) (h : Enc.prods.R F w [vp] l) :
    Calls Try.prog 70 #[.agg #[.int .i64 t, .int .i64 n, vp], .int .i64 p] w (It.RetBody l p w) := by
  obtain ⟨ao, b, off, cap, rfl, -, k3, k4⟩ := slProds h
  by_cases hp : p = l.length
  · subst hp
    have hb : It.body l ((l.length : Nat) : Int) = [(2, 0)] := by rw [It.body, if_pos rfl]
    have hst := ((St.init w).alloc #[.int .i64 t, .int .i64 n, .slice ao l.length cap] 24).alloc #[.int .i64 2, .int .i64 0] 61
    have he := It.oneTwo (hst.heapAt 0 rfl)
    rw [show (w.alloc (.cells #[.int .i64 t, .int .i64 n, .slice ao l.length cap] 24)).heap.size = w.heap.size + 1 from World.size_alloc _ _] at he
    have HE := Lib.hid he
    clear he
    have HB := Lib.hid hst.bel
    unfold It.RetBody
    rw [hb]
    clear h k3 k4 hst hb h0 h1 hF hl
    go_enter Try.func70, Try.ntmps70
    go_wp2
    go_ret
    exact ⟨_, _, rfl, HE.out, HB.out⟩
  · obtain ⟨i, rfl⟩ := Int.eq_ofNat_of_zero_le h0
    have hi : i < l.length := by omega
    obtain ⟨rfl, -, -⟩ := k3 (by omega)
    obtain ⟨vb, e0, e1, e2, -⟩ := k4 i hi
    have hb : It.body l (i : Int) = (l.getD i (0, [])).2 := by rw [It.body, if_neg hp, Int.toNat_natCast]
    obtain ⟨ab, bb, ob, cb, rfl, -, -, -⟩ := Enc.slN (0, 0) e2
    have hst := (St.init w).alloc #[.int .i64 t, .int .i64 n, .slice (some ⟨b, off, none⟩) l.length cap] 24
    have HB := Lib.hid hst.bel
    have HE := Lib.hid (Enc.mono _ e2 (F' := fun q => q < (w.alloc (.cells #[.int .i64 t, .int .i64 n, .slice (some ⟨b, off, none⟩) l.length cap] 24)).heap.size) (fun q hq => Nat.lt_of_lt_of_le (hF q hq) hst.bel.size) (fun q hq => hst.bel.block q (hF q hq)))
    have hne : ((i : Int) == (l.length : Int)) = false := by rw [beq_eq_false_iff_ne]; omega
    have hiI : (i : Int) < (l.length : Int) := by omega
    have hiD : decide ((i : Int) < (l.length : Int)) = true := decide_eq_true hiI
    have blt := World.block_lt_of_cell? _ _ e1
    simp only at blt
    unfold It.RetBody
    rw [hb]
    clear h k3 k4 e0 e2 hst hb h0 h1 hp hF hl
    generalize (l.getD i (0, [])).2 = bd at *
    go_enter Try.func70, Try.ntmps70
    go_wp2
    go_ret
    exact ⟨_, _, rfl, HE.out, HB.out⟩
end Go.Proofs.Ytkhjncbjdldpbaa

/-
  Of of package facts.
-/
namespace Go.Proofs.Ytkhjncbjdldpbaa
set_option linter.unusedVariables false
set_option linter.unusedSimpArgs false
open Go.ChangeShapes Go.WideShapes Go.ChangeAt Go.RowKit

def RetFc (l : List Fc.Pr) (N : Nat) (w : World) (e : Ending) (w' : World) : Prop := ∃ gE gF gW gR gM E Fs W R M, e = .returned (.tuple #[.agg #[.slice (some ⟨gE, 0, none⟩) N N, .slice (some ⟨gF, 0, none⟩) N N, .slice (some ⟨gW, 0, none⟩) N N, .slice (some ⟨gR, 0, none⟩) N N, .slice (some ⟨gM, 0, none⟩) N N], .int .i64 0]) ∧ Hid (Fc.Good l N E Fs W R M) ∧
  St w w' [Fc.aB (.slice (some ⟨gE, 0, none⟩) N N) E, Fc.aU (.slice (some ⟨gF, 0, none⟩) N N) Fs, Fc.aU (.slice (some ⟨gW, 0, none⟩) N N) W, Fc.aB (.slice (some ⟨gR, 0, none⟩) N N) R, Fc.aB (.slice (some ⟨gM, 0, none⟩) N N) M]
def Fc.mks (N : Nat) : List Mk := [.make 1 16 N 4 (.bool false), .make 3 18 N 130 (.int .u64 0), .make 5 20 N 130 (.int .u64 0), .make 7 22 N 4 (.bool false), .make 9 24 N 4 (.bool false), .cel 11 6 68 #[.slice none 0 0, .slice none 0 0, .slice none 0 0, .slice none 0 0, .slice none 0 0]]

set_option maxRecDepth 100000 in
set_option maxHeartbeats 1600000 in
theorem fcOf_bad (t n : Int) (vp : Value) (l : List Fc.Pr) (w : World) (F : Nat → Prop) (hF : ∀ b, F b → b < w.heap.size) (h : Enc.prods.R F w [vp] l) (he : Gr.err t n l ≠ 0) :
    Calls Try.prog 46 #[.agg #[.int .i64 t, .int .i64 n, vp]] w fun e w' => e = .returned (.tuple #[.agg #[.slice none 0 0, .slice none 0 0, .slice none 0 0, .slice none 0 0, .slice none 0 0], .int .i64 (Gr.err t n l)]) ∧ Below w.heap.size w w' := by
  have HC := Lib.hid (fun (w' : World) (hb : Below w.heap.size w w') => cfgCheck_any t n vp l w' F (fun b hb' => Nat.lt_of_lt_of_le (hF b hb') hb.size) (Enc.prods.mono h (fun _ h => h) (fun b hb' => hb.block b (hF b hb'))))
  have hne : ((Gr.err t n l : Int) != 0) = true := by rw [bne_iff_ne]; exact he
  obtain ⟨E, hE⟩ : ∃ E, Gr.err t n l = E := ⟨_, rfl⟩
  rw [hE] at HC hne ⊢
  clear h hF he hE
  go_enter Try.func46, Try.ntmps46
  go_wp2_with (fail)
  go_at_call 84
  refine (HC.out _ (((Below.refl _ _).alloc (Nat.le_refl _) _).alloc (by simp) _)).mono ?_
  rintro e w1 ⟨rfl, hb1⟩
  have hb := (((Below.refl w.heap.size w).alloc (Nat.le_refl _) (.cells #[.int .i64 t, .int .i64 n, vp] 24)).alloc (by simp) (.cells #[.slice none 0 0, .slice none 0 0, .slice none 0 0, .slice none 0 0, .slice none 0 0] 68)).trans (hb1.mono (by simp; omega))
  obtain ⟨r0, r1, r2, r3, r4⟩ := (((St.init w).alloc #[.int .i64 t, .int .i64 n, vp] 24).alloc #[.slice none 0 0, .slice none 0 0, .slice none 0 0, .slice none 0 0, .slice none 0 0] 68).call hb1 |>.at5 0 rfl
  have hst := (((St.init w).alloc #[.int .i64 t, .int .i64 n, vp] 24).alloc #[.slice none 0 0, .slice none 0 0, .slice none 0 0, .slice none 0 0, .slice none 0 0] 68).call hb1
  simp only [World.size_alloc] at hst r0 r1 r2 r3 r4
  have k0 := hst.celFree 0
  have k1 := hst.celFree 1
  have k2 := hst.celFree 2
  have k3 := hst.celFree 3
  have k4 := hst.celFree 4
  have hst2 := ((((hst.setCel 0 (.slice none 0 0)).setCel 1 (.slice none 0 0)).setCel 2 (.slice none 0 0)).setCel 3 (.slice none 0 0)).setCel 4 (.slice none 0 0)
  have HST := Lib.hid hst2
  obtain ⟨s0, s1, s2, s3, s4⟩ := hst2.at5 (v0 := .slice none 0 0) (v1 := .slice none 0 0) (v2 := .slice none 0 0) (v3 := .slice none 0 0) (v4 := .slice none 0 0) 0 rfl
  clear hst hst2 hb1 hb HC
  go_wp2
  refine bodyPost_ret (v := .tuple #[.agg #[.slice none 0 0, .slice none 0 0, .slice none 0 0, .slice none 0 0, .slice none 0 0], .int .i64 E]) (by simp [results, Try.results46, go_sem, s0, s1, s2, s3, s4]) rfl ?_
  exact ⟨rfl, HST.out.bel⟩

set_option maxRecDepth 100000 in
set_option maxHeartbeats 1600000 in
theorem fcOf_ok (t n : Int) (vp : Value) (l : List Fc.Pr) (w : World) (F : Nat → Prop) (hF : ∀ b, F b → b < w.heap.size) (h : Enc.prods.R F w [vp] l) (he : Gr.err t n l = 0) :
    Calls Try.prog 46 #[.agg #[.int .i64 t, .int .i64 n, vp]] w (RetFc l n.toNat w) := by
  have HC := Lib.hid (fun (w' : World) (hb : Below w.heap.size w w') => cfgCheck_any t n vp l w' F (fun b hb' => Nat.lt_of_lt_of_le (hF b hb') hb.size) (Enc.prods.mono h (fun _ h => h) (fun b hb' => hb.block b (hF b hb'))))
  have hok := Fc.okP_of he
  obtain ⟨z1, z2, z3, z4, hl40, -⟩ := Gr.err_zero he
  obtain ⟨N, rfl⟩ := Int.eq_ofNat_of_zero_le (show 0 ≤ n by omega)
  rw [Int.toNat_natCast] at hok ⊢
  have hN : 0 < N := by omega
  have hN20 : N ≤ 20 := by omega
  have HOK := Lib.hid hok; have HP := Lib.hid h; have HL := Lib.hid hl40; have HN := Lib.hid hN; have HN20 := Lib.hid hN20; have HF := Lib.hid hF
  rw [he] at HC
  clear h hF he hok hl40
  have HST := Lib.hid (((St.init w).alloc #[.int .i64 t, .int .i64 N, vp] 24).alloc #[.slice none 0 0, .slice none 0 0, .slice none 0 0, .slice none 0 0, .slice none 0 0] 68)
  simp only [World.size_alloc] at HST
  go_enter Try.func46, Try.ntmps46
  go_wp2_with (fail)
  go_at_call 84
  refine (HC.out _ HST.out.bel).mono ?_
  rintro e w1 ⟨rfl, hb1⟩
  have hst := HST.out.call hb1
  have HST := Lib.hid hst
  obtain ⟨g0, g1, g2⟩ := hst.at3 1 rfl
  clear hst hb1 HC
  go_wp2
  refine wp_region_any (by kernel_rfl) ?_
  have HSTD := Lib.hid HST.out.drew
  change wpAny _ _ _ _ _ _ _ w1.drew
  refine wpAny_take (i := 0) (v := ?_) rfl (by kernel_rfl) (by kernel_rfl) (by kernel_rfl) (fun _ _ _ h => h) (Or.inl ⟨by rfl, ?_⟩) ?_
  rotate_left; focus (intro w; go_simp; try (with_reducible rfl); done)
  try simp only [List.getElem_toArray, List.getElem_cons_zero, List.getElem_cons_succ, Act.put, List.setIfInBounds_toArray, List.set_cons_zero, List.set_cons_succ]
  refine wpAny_take (i := 2) (v := ?_) rfl (by kernel_rfl) (by kernel_rfl) (by kernel_rfl) (fun _ _ _ h => h) (Or.inl ⟨by rfl, ?_⟩) ?_
  rotate_left; focus (intro w; go_simp; try (with_reducible rfl); done)
  try simp only [List.getElem_toArray, List.getElem_cons_zero, List.getElem_cons_succ, Act.put, List.setIfInBounds_toArray, List.set_cons_zero, List.set_cons_succ]
  refine wpAny_take (i := 4) (v := ?_) rfl (by kernel_rfl) (by kernel_rfl) (by kernel_rfl) (fun _ _ _ h => h) (Or.inl ⟨by rfl, ?_⟩) ?_
  rotate_left; focus (intro w; go_simp; try (with_reducible rfl); done)
  try simp only [List.getElem_toArray, List.getElem_cons_zero, List.getElem_cons_succ, Act.put, List.setIfInBounds_toArray, List.set_cons_zero, List.set_cons_succ]
  refine wpAny_take (i := 6) (v := ?_) rfl (by kernel_rfl) (by kernel_rfl) (by kernel_rfl) (fun _ _ _ h => h) (Or.inl ⟨by rfl, ?_⟩) ?_
  rotate_left; focus (intro w; go_simp; try (with_reducible rfl); done)
  try simp only [List.getElem_toArray, List.getElem_cons_zero, List.getElem_cons_succ, Act.put, List.setIfInBounds_toArray, List.set_cons_zero, List.set_cons_succ]
  refine wpAny_take (i := 8) (v := ?_) rfl (by kernel_rfl) (by kernel_rfl) (by kernel_rfl) (fun _ _ _ h => h) (Or.inl ⟨by rfl, ?_⟩) ?_
  rotate_left; focus (intro w; go_simp; try (with_reducible rfl); done)
  try simp only [List.getElem_toArray, List.getElem_cons_zero, List.getElem_cons_succ, Act.put, List.setIfInBounds_toArray, List.set_cons_zero, List.set_cons_succ]
  refine St.makes (w0 := w) (Fc.mks N) [[1, 3, 5, 7, 9], [1, 3, 5, 7, 9, 11]] 2 HSTD.out rfl (by kernel_rfl) (by kernel_rfl) (by kernel_rfl) ?_ ?_
  · intro m hm
    simp only [Fc.mks, List.mem_cons, List.not_mem_nil, or_false] at hm
    have h64 : (8 : Int) * N ≤ 140737488355328 := by have := HN20.out; omega
    have h1 : (1 : Int) * N ≤ 140737488355328 := by have := HN20.out; omega
    rcases hm with rfl | rfl | rfl | rfl | rfl | rfl
    · exact Mk.does_make rfl rfl rfl rfl Try.underlying52 (by kernel_rfl) rfl (by decide) h1 rfl rfl
    · exact Mk.does_make rfl rfl rfl rfl Try.underlying66 (by kernel_rfl) rfl (by decide) h64 rfl rfl
    · exact Mk.does_make rfl rfl rfl rfl Try.underlying66 (by kernel_rfl) rfl (by decide) h64 rfl rfl
    · exact Mk.does_make rfl rfl rfl rfl Try.underlying52 (by kernel_rfl) rfl (by decide) h1 rfl rfl
    · exact Mk.does_make rfl rfl rfl rfl Try.underlying52 (by kernel_rfl) rfl (by decide) h1 rfl rfl
    · exact Mk.does_cel rfl rfl rfl (fun b w => by kernel_rfl)
  · intro js hjs k ds hds hk w5 hst5
    simp only [List.mem_cons, List.not_mem_nil, or_false] at hjs
    rcases hjs with rfl | rfl
    case' inl =>
      obtain ⟨gE, d1, rfl, h1⟩ := Mk.split (hds.trans rfl)
      obtain ⟨gF, d2, rfl, h2⟩ := Mk.split h1
      obtain ⟨gW, d3, rfl, h3⟩ := Mk.split h2
      obtain ⟨gR, d4, rfl, h4⟩ := Mk.split h3
      obtain ⟨gM, d5, rfl, h5⟩ := Mk.split h4
      obtain rfl := Mk.done h5
      obtain rfl : k = 1 := by simp [Fc.mks] at hk; omega
      clear hds h1 h2 h3 h4 h5 hk
      simp only [Mk.lst, Mk.puts, List.map_cons, List.map_nil, List.foldl_cons, List.foldl_nil, Mk.make, Mk.cel, Act.put, List.setIfInBounds_toArray, List.set_cons_zero, List.set_cons_succ]
      refine wpAny_take (i := 10) (v := ?_) rfl (by kernel_rfl) (by kernel_rfl) (by kernel_rfl) (fun _ _ _ h => h) (Or.inl ⟨by rfl, ?_⟩) ?_
      rotate_left; focus (intro w; go_simp; try (with_reducible rfl); done)
      try simp only [List.getElem_toArray, List.getElem_cons_zero, List.getElem_cons_succ, Act.put, List.setIfInBounds_toArray, List.set_cons_zero, List.set_cons_succ]
      refine wpAny_ready (rs := [11]) (by kernel_rfl) (by simp) ?_
      refine AllReady.cons rfl (fun K hK => ?_) AllReady.nil
      go_simp
      refine hK _ _ ?_
      clear hK K
      have hst6 := Lib.hid (hst5.alloc #[.slice none 0 0, .slice none 0 0, .slice none 0 0, .slice none 0 0, .slice none 0 0] 68)
      generalize w5.heap.size = gB at *
      generalize w5.alloc (.cells #[.slice none 0 0, .slice none 0 0, .slice none 0 0, .slice none 0 0, .slice none 0 0] 68) = W at *
      clear hst5
      obtain ⟨x0, x1, x2, x3, x4⟩ := hst6.out.at5 0 rfl
      have f0 := hst6.out.celFree 0
      have f1 := hst6.out.celFree 1
      have f2 := hst6.out.celFree 2
      have f3 := hst6.out.celFree 3
      have f4 := hst6.out.celFree 4
      refine wpAny_ready (rs := [12]) (by kernel_rfl) (by simp) ?_
      refine AllReady.cons rfl (fun K hK => ?_) AllReady.nil
      go_simp
      refine hK _ _ ?_
      clear hK K x0 x1 x2 x3 x4 f0 f1 f2 f3 f4
      have hst7 := ((((hst6.out.setCel 0 (.slice (some ⟨gE, 0, none⟩) N N)).setCel 1 (.slice (some ⟨gF, 0, none⟩) N N)).setCel 2 (.slice (some ⟨gW, 0, none⟩) N N)).setCel 3 (.slice (some ⟨gR, 0, none⟩) N N)).setCel 4 (.slice (some ⟨gM, 0, none⟩) N N)
      refine wpAny_done (by kernel_rfl) ?_ _
      generalize (((((W.setCell ⟨gB, 0, none⟩ (.slice (some ⟨gE, 0, none⟩) N N)).setCell ⟨gB, 1, none⟩ (.slice (some ⟨gF, 0, none⟩) N N)).setCell ⟨gB, 2, none⟩ (.slice (some ⟨gW, 0, none⟩) N N)).setCell ⟨gB, 3, none⟩ (.slice (some ⟨gR, 0, none⟩) N N)).setCell ⟨gB, 4, none⟩ (.slice (some ⟨gM, 0, none⟩) N N)) = W7 at *
      clear hst6
      have HST := Lib.hid (hst7.pick (ρ := aCel gB 68 #[.slice (some ⟨gE, 0, none⟩) N N, .slice (some ⟨gF, 0, none⟩) N N, .slice (some ⟨gW, 0, none⟩) N N, .slice (some ⟨gR, 0, none⟩) N N, .slice (some ⟨gM, 0, none⟩) N N] :: aOwn 130 1 (.slice (some ⟨gF, 0, none⟩) N N) (List.replicate N (.int .u64 0)) :: aOwn 130 1 (.slice (some ⟨gW, 0, none⟩) N N) (List.replicate N (.int .u64 0)) :: aOwn 4 1 (.slice (some ⟨gR, 0, none⟩) N N) (List.replicate N (.bool false)) :: aOwn 4 1 (.slice (some ⟨gM, 0, none⟩) N N) (List.replicate N (.bool false)) :: aOwn 4 1 (.slice (some ⟨gE, 0, none⟩) N N) (List.replicate N (.bool false)) :: [aCel (w.heap.size + 1) 68 #[.slice none 0 0, .slice none 0 0, .slice none 0 0, .slice none 0 0, .slice none 0 0], aCel w.heap.size 24 #[.int .i64 t, .int .i64 N, vp]]) [0, 2, 3, 4, 5, 1, 6, 7] 8 rfl rfl)
      clear hst7
    case' inr =>
      obtain ⟨gE, d1, rfl, h1⟩ := Mk.split (hds.trans rfl)
      obtain ⟨gF, d2, rfl, h2⟩ := Mk.split h1
      obtain ⟨gW, d3, rfl, h3⟩ := Mk.split h2
      obtain ⟨gR, d4, rfl, h4⟩ := Mk.split h3
      obtain ⟨gM, d5, rfl, h5⟩ := Mk.split h4
      obtain ⟨gB, d6, rfl, h6⟩ := Mk.split h5
      obtain rfl := Mk.done h6
      obtain rfl : k = 0 := by simp [Fc.mks] at hk; omega
      clear hds h1 h2 h3 h4 h5 h6 hk
      simp only [Mk.lst, Mk.puts, List.map_cons, List.map_nil, List.foldl_cons, List.foldl_nil, Mk.make, Mk.cel, Act.put, List.setIfInBounds_toArray, List.set_cons_zero, List.set_cons_succ]
      refine wpAny_take (i := 10) (v := ?_) rfl (by kernel_rfl) (by kernel_rfl) (by kernel_rfl) (fun _ _ _ h => h) (Or.inl ⟨by rfl, ?_⟩) ?_
      rotate_left; focus (intro w; go_simp; try (with_reducible rfl); done)
      try simp only [List.getElem_toArray, List.getElem_cons_zero, List.getElem_cons_succ, Act.put, List.setIfInBounds_toArray, List.set_cons_zero, List.set_cons_succ]
      have hst6 := Lib.hid (hst5.pick (ρ := aCel gB 68 #[.slice none 0 0, .slice none 0 0, .slice none 0 0, .slice none 0 0, .slice none 0 0] :: aOwn 130 1 (.slice (some ⟨gF, 0, none⟩) N N) (List.replicate N (.int .u64 0)) :: aOwn 130 1 (.slice (some ⟨gW, 0, none⟩) N N) (List.replicate N (.int .u64 0)) :: aOwn 4 1 (.slice (some ⟨gR, 0, none⟩) N N) (List.replicate N (.bool false)) :: aOwn 4 1 (.slice (some ⟨gM, 0, none⟩) N N) (List.replicate N (.bool false)) :: aOwn 4 1 (.slice (some ⟨gE, 0, none⟩) N N) (List.replicate N (.bool false)) :: [aCel (w.heap.size + 1) 68 #[.slice none 0 0, .slice none 0 0, .slice none 0 0, .slice none 0 0, .slice none 0 0], aCel w.heap.size 24 #[.int .i64 t, .int .i64 N, vp]]) [5, 1, 2, 3, 4, 0, 6, 7] 8 rfl rfl)
      generalize w5 = W at *
      clear hst5
      obtain ⟨x0, x1, x2, x3, x4⟩ := hst6.out.at5 0 rfl
      have f0 := hst6.out.celFree 0
      have f1 := hst6.out.celFree 1
      have f2 := hst6.out.celFree 2
      have f3 := hst6.out.celFree 3
      have f4 := hst6.out.celFree 4
      refine wpAny_ready (rs := [12]) (by kernel_rfl) (by simp) ?_
      refine AllReady.cons rfl (fun K hK => ?_) AllReady.nil
      go_simp
      refine hK _ _ ?_
      clear hK K x0 x1 x2 x3 x4 f0 f1 f2 f3 f4
      have hst7 := ((((hst6.out.setCel 0 (.slice (some ⟨gE, 0, none⟩) N N)).setCel 1 (.slice (some ⟨gF, 0, none⟩) N N)).setCel 2 (.slice (some ⟨gW, 0, none⟩) N N)).setCel 3 (.slice (some ⟨gR, 0, none⟩) N N)).setCel 4 (.slice (some ⟨gM, 0, none⟩) N N)
      refine wpAny_done (by kernel_rfl) ?_ _
      generalize (((((W.setCell ⟨gB, 0, none⟩ (.slice (some ⟨gE, 0, none⟩) N N)).setCell ⟨gB, 1, none⟩ (.slice (some ⟨gF, 0, none⟩) N N)).setCell ⟨gB, 2, none⟩ (.slice (some ⟨gW, 0, none⟩) N N)).setCell ⟨gB, 3, none⟩ (.slice (some ⟨gR, 0, none⟩) N N)).setCell ⟨gB, 4, none⟩ (.slice (some ⟨gM, 0, none⟩) N N)) = W7 at *
      clear hst6
      have HST := Lib.hid hst7
      clear hst7
    all_goals
      have hst8 : St w W7 (aOwn 4 1 (.slice (some ⟨gR, 0, none⟩) N N) ((List.replicate N false).map Value.bool) :: aOwn 130 1 (.slice (some ⟨gW, 0, none⟩) N N) ((List.replicate N 0).map Fc.uV) :: aOwn 130 1 (.slice (some ⟨gF, 0, none⟩) N N) ((List.replicate N 0).map Fc.uV) :: aOwn 4 1 (.slice (some ⟨gM, 0, none⟩) N N) ((List.replicate N false).map Value.bool) :: aOwn 4 1 (.slice (some ⟨gE, 0, none⟩) N N) ((List.replicate N false).map Value.bool) :: aCel gB 68 #[.slice (some ⟨gE, 0, none⟩) N N, .slice (some ⟨gF, 0, none⟩) N N, .slice (some ⟨gW, 0, none⟩) N N, .slice (some ⟨gR, 0, none⟩) N N, .slice (some ⟨gM, 0, none⟩) N N] :: [aCel (w.heap.size + 1) 68 #[.slice none 0 0, .slice none 0 0, .slice none 0 0, .slice none 0 0, .slice none 0 0], aCel w.heap.size 24 #[.int .i64 t, .int .i64 N, vp]]) := by
        simp only [List.map_replicate]
        exact HST.out.pick [3, 2, 1, 4, 5, 0, 6, 7] 8 rfl rfl
      clear HST
      have HST := Lib.hid hst8
      obtain ⟨c1, c2⟩ := hst8.cellOwn (f := Value.bool) (fun _ => rfl) 0 (by simp; exact HN.out) false
      obtain ⟨x0, x1, x2, x3, x4⟩ := hst8.at5 5 rfl
      have hn0 : (0 : Int) < N := by have := HN.out; omega
      have hst9 := (hst8.setOwn (f := Value.bool) (fun _ => rfl) 0 true).get2
      have hst10 := (hst9.setOwn (f := Fc.uV) (fun _ => rfl) 0 9223372036854775808)
      obtain ⟨c3, c4⟩ := hst9.cellOwn (f := Fc.uV) (fun _ => rfl) 0 (by simp; exact HN.out) 0
      obtain ⟨y0, y1, y2, y3, y4⟩ := hst9.at5 5 rfl
      have HST := Lib.hid hst10
      clear hst8 hst9 hst10
      go_wp2
      clear c1 c2 c3 c4 x0 x1 x2 x3 x4 y0 y1 y2 y3 y4 hn0
      have hst11 := HST.out.pick (ρ := Fc.aB (.slice (some ⟨gR, 0, none⟩) N N) ((List.replicate N false).set 0 true) :: Fc.aB (.slice (some ⟨gM, 0, none⟩) N N) (List.replicate N false) :: Fc.aB (.slice (some ⟨gE, 0, none⟩) N N) (List.replicate N false) :: Fc.aU (.slice (some ⟨gF, 0, none⟩) N N) (List.replicate N 0) :: Fc.aU (.slice (some ⟨gW, 0, none⟩) N N) ((List.replicate N 0).set 0 9223372036854775808) :: aCel gB 68 #[.slice (some ⟨gE, 0, none⟩) N N, .slice (some ⟨gF, 0, none⟩) N N, .slice (some ⟨gW, 0, none⟩) N N, .slice (some ⟨gR, 0, none⟩) N N, .slice (some ⟨gM, 0, none⟩) N N] :: [aCel (w.heap.size + 1) 68 #[.slice none 0 0, .slice none 0 0, .slice none 0 0, .slice none 0 0, .slice none 0 0], aCel w.heap.size 24 #[.int .i64 t, .int .i64 N, vp]]) [1, 3, 4, 2, 0, 5, 6, 7] 8 rfl rfl
      clear HST
      have HST := Lib.hid hst11
      clear hst11
      go_loopg [34] (3 * N - Fc.cnt3 (List.replicate N false, List.replicate N false, (List.replicate N false).set 0 true)) (fun gk v wr => ∃ (E M R : List Bool), gk = 3 * N - Fc.cnt3 (E, M, R) ∧ Hid (Fc.Und l N E M R) ∧ St w wr (Fc.aB (.slice (some ⟨gR, 0, none⟩) N N) R :: Fc.aB (.slice (some ⟨gM, 0, none⟩) N N) M :: Fc.aB (.slice (some ⟨gE, 0, none⟩) N N) E :: Fc.aU (.slice (some ⟨gF, 0, none⟩) N N) (List.replicate N 0) :: Fc.aU (.slice (some ⟨gW, 0, none⟩) N N) ((List.replicate N 0).set 0 9223372036854775808) :: aCel gB 68 #[.slice (some ⟨gE, 0, none⟩) N N, .slice (some ⟨gF, 0, none⟩) N N, .slice (some ⟨gW, 0, none⟩) N N, .slice (some ⟨gR, 0, none⟩) N N, .slice (some ⟨gM, 0, none⟩) N N] :: [aCel (w.heap.size + 1) 68 #[.slice none 0 0, .slice none 0 0, .slice none 0 0, .slice none 0 0, .slice none 0 0], aCel w.heap.size 24 #[.int .i64 t, .int .i64 N, vp]]))
      case atStart => exact ⟨_, _, _, rfl, Lib.hid (Fc.Und.init HN.out), HST.out⟩
      case round =>
        clear HST
        obtain ⟨E, M, R, hgk, HU, hst⟩ := hrel
        have HGK := Lib.hid hgk
        have HST := Lib.hid hst
        clear hgk hst
        obtain ⟨x0, x1, x2, x3, x4⟩ := HST.out.at5 5 rfl
        obtain ⟨p0, p1, p2⟩ := HST.out.at3 7 rfl
        go_wp2_with (fail)
        go_at_call 95
        refine (fcRound_any w _ t N vp _ _ l N gE N N gM N N gR N N E M R _ F HP.out HL.out HOK.out HU.out.e HU.out.m HU.out.r rfl rfl rfl (hst := HST.out)).mono ?_
        rintro e w8 ⟨m, rfl, hpg, hst8⟩
        have HPG := Lib.hid hpg
        have HUN := Lib.hid HU.out.next
        have HST := Lib.hid hst8
        clear hpg hst8 x0 x1 x2 x3 x4 p0 p1 p2
        cases m
        · have he := HPG.out.1 rfl
          simp only [Prod.mk.injEq] at he
          obtain ⟨he1, he2, he3⟩ := he
          rw [he1, he2, he3] at HST
          have HE1 := Lib.hid he1; have HE2 := Lib.hid he2; have HE3 := Lib.hid he3
          clear he1 he2 he3
          obtain ⟨x0, x1, x2, x3, x4⟩ := HST.out.at5 5 rfl
          obtain ⟨p0, p1, p2⟩ := HST.out.at3 7 rfl
          have HST := Lib.hid (HST.out.pick (ρ := _ :: _ :: _ :: _ :: _ :: _ :: _ :: [_]) [3, 4, 1, 2, 0, 5, 6, 7] 8 rfl rfl)
          go_wp2_with (fail)
          go_at_call 96
          refine (fcSets_any w _ t N vp l N gE N N gF N N gW N N gM N N _ E M _ _ _ F HP.out HL.out HOK.out HU.out.e HU.out.m (by simp) (by simp) rfl rfl rfl rfl (fun i => by rw [Fc.getD_rep]; decide) (fun i => by rw [Fc.getD_rep0 HN.out]; split <;> decide) (hst := HST.out)).mono ?_
          rintro e w9 ⟨j, q, rfl, hF, hW, hst9⟩
          have HG := Lib.hid (Fc.Good.of HOK.out HN.out HU.out HE1.out HE2.out HE3.out hF hW)
          generalize Fc.iter (Fc.fol E (Fc.iter (Fc.rdF E M l) j (List.replicate N 0)) l) q ((List.replicate N 0).set 0 9223372036854775808) = Wf at *
          generalize Fc.iter (Fc.rdF E M l) j (List.replicate N 0) = Ff at *
          clear hF hW x0 x1 x2 x3 x4 p0 p1 p2 HST
          obtain ⟨x0, x1, x2, x3, x4⟩ := hst9.at5 5 rfl
          obtain ⟨y0, y1, y2, y3, y4⟩ := hst9.at5 6 rfl
          have HST := Lib.hid hst9
          have k0 := (hst9.nth 6 rfl).celFree 0
          have k1 := (hst9.nth 6 rfl).celFree 1
          have k2 := (hst9.nth 6 rfl).celFree 2
          have k3 := (hst9.nth 6 rfl).celFree 3
          have k4 := (hst9.nth 6 rfl).celFree 4
          clear hst9
          go_wp2
          have hst10 := (((((HST.out.pick [6, 0, 1, 2, 3, 4, 5, 7] 8 rfl rfl).setCel 0 (.slice (some ⟨gE, 0, none⟩) N N)).setCel 1 (.slice (some ⟨gF, 0, none⟩) N N)).setCel 2 (.slice (some ⟨gW, 0, none⟩) N N)).setCel 3 (.slice (some ⟨gR, 0, none⟩) N N)).setCel 4 (.slice (some ⟨gM, 0, none⟩) N N)
          generalize (((((w9.setCell ⟨w.heap.size + 1, 0, none⟩ (.slice (some ⟨gE, 0, none⟩) N N)).setCell ⟨w.heap.size + 1, 1, none⟩ (.slice (some ⟨gF, 0, none⟩) N N)).setCell ⟨w.heap.size + 1, 2, none⟩ (.slice (some ⟨gW, 0, none⟩) N N)).setCell ⟨w.heap.size + 1, 3, none⟩ (.slice (some ⟨gR, 0, none⟩) N N)).setCell ⟨w.heap.size + 1, 4, none⟩ (.slice (some ⟨gM, 0, none⟩) N N)) = W10 at *
          have hst11 := hst10.pick (ρ := [Fc.aB (.slice (some ⟨gE, 0, none⟩) N N) E, Fc.aU (.slice (some ⟨gF, 0, none⟩) N N) Ff, Fc.aU (.slice (some ⟨gW, 0, none⟩) N N) Wf, Fc.aB (.slice (some ⟨gR, 0, none⟩) N N) R, Fc.aB (.slice (some ⟨gM, 0, none⟩) N N) M]) [4, 1, 2, 5, 3] 8 rfl rfl
          obtain ⟨r0, r1, r2, r3, r4⟩ := hst10.at5 (v0 := .slice (some ⟨gE, 0, none⟩) N N) (v1 := .slice (some ⟨gF, 0, none⟩) N N) (v2 := .slice (some ⟨gW, 0, none⟩) N N) (v3 := .slice (some ⟨gR, 0, none⟩) N N) (v4 := .slice (some ⟨gM, 0, none⟩) N N) 0 rfl
          refine bodyPost_ret (v := .tuple #[.agg #[.slice (some ⟨gE, 0, none⟩) N N, .slice (some ⟨gF, 0, none⟩) N N, .slice (some ⟨gW, 0, none⟩) N N, .slice (some ⟨gR, 0, none⟩) N N, .slice (some ⟨gM, 0, none⟩) N N], .int .i64 0]) (by simp [results, Try.results46, go_sem, r0, r1, r2, r3, r4]) rfl ?_
          exact ⟨gE, gF, gW, gR, gM, E, Ff, Wf, R, M, rfl, HG, hst11⟩
        · have hlt := HPG.out.2 rfl
          have hU := HUN.out
          have hle := Fc.cnt3_le (s := (Fc.rdA false l E, Fc.rdA true l M, Fc.rdR l R)) hU.e hU.m hU.r
          have HLT := Lib.hid hlt; have HLE := Lib.hid hle
          clear hlt hle hU HPG
          go_wp2
          go_roundg (3 * N - Fc.cnt3 (Fc.rdA false l E, Fc.rdA true l M, Fc.rdR l R))
          case measure =>
            have h1 := HLT.out; have h2 := HLE.out; have h3 := HGK.out
            rw [h3]
            omega
          case rel => exact ⟨_, _, _, rfl, HUN, HST.out⟩
end Go.Proofs.Ytkhjncbjdldpbaa

/-
  Begin of package facts.
-/
namespace Go.Proofs.Ytkhjncbjdldpbaa
set_option linter.unusedVariables false
set_option linter.unusedSimpArgs false
open Go.ChangeShapes Go.WideShapes Go.ChangeAt Go.RowKit

def RetFb (l : List Fc.Pr) (N : Nat) (behind : Nat) (body : List (Int × Int)) (R : Bool) (w : World) (e : Ending) (w' : World) : Prop :=
  (R = true → ∃ E Fs W Rc M, e = .returned (.tuple #[.int .u64 ((Fc.beg E Fs behind body : Nat) : Int), .int .i64 0]) ∧ Fc.Good l N E Fs W Rc M) ∧ (R = false → e = .returned (.tuple #[.int .u64 0, .int .i64 1])) ∧ Below w.heap.size w w'

set_option maxRecDepth 100000 in
set_option maxHeartbeats 1600000 in
theorem fcBeg_bad (t n : Int) (vp vb : Value) (l : List Fc.Pr) (behind : Int) (w : World) (F : Nat → Prop) (hF : ∀ b, F b → b < w.heap.size) (h : Enc.prods.R F w [vp] l) (he : Gr.err t n l ≠ 0) :
    Calls Try.prog 125 #[.agg #[.int .i64 t, .int .i64 n, vp], vb, .int .u64 behind] w fun e w' => e = .returned (.tuple #[.int .u64 0, .int .i64 (Gr.err t n l)]) ∧ Below w.heap.size w w' := by
  have HC := Lib.hid (fun (w' : World) (hb : Below w.heap.size w w') => fcOf_bad t n vp l w' F (fun b hb' => Nat.lt_of_lt_of_le (hF b hb') hb.size) (Enc.prods.mono h (fun _ h => h) (fun b hb' => hb.block b (hF b hb'))) he)
  have hne : ((Gr.err t n l : Int) != 0) = true := by rw [bne_iff_ne]; exact he
  obtain ⟨E, hE⟩ : ∃ E, Gr.err t n l = E := ⟨_, rfl⟩
  rw [hE] at HC hne ⊢
  clear h hF he hE
  go_enter Try.func125, Try.ntmps125
  go_wp2_with (fail)
  go_at_call 46
  refine (HC.out _ ((Below.refl _ _).alloc (Nat.le_refl _) _)).mono ?_
  rintro e w1 ⟨rfl, hb1⟩
  have hst := ((St.init w).alloc #[.int .i64 t, .int .i64 n, vp] 24).call hb1
  have HST := Lib.hid hst
  clear hst hb1 HC
  go_wp2
  go_ret2
  exact ⟨rfl, (HST.out.skip _).bel⟩

set_option maxRecDepth 100000 in
set_option maxHeartbeats 1600000 in
theorem fcBeg_ok (t n : Int) (vp vb : Value) (l : List Fc.Pr) (behind : Nat) (body : List (Int × Int)) (w : World) (F : Nat → Prop) (hF : ∀ b, F b → b < w.heap.size) (h : Enc.prods.R F w [vp] l) (hb : (Enc.two.sl 16).R F w [vb] body) (he : Gr.err t n l = 0) (hbh : behind < 2 ^ 64) (R : Bool) (hR : (decide (body.length ≤ 60) && body.all (Gr.right t n)) = R) :
    Calls Try.prog 125 #[.agg #[.int .i64 t, .int .i64 n, vp], vb, .int .u64 (behind : Int)] w (RetFb l n.toNat behind body R w) := by
  have HC := Lib.hid (fun (w' : World) (hb : Below w.heap.size w w') => fcOf_ok t n vp l w' F (fun b hb' => Nat.lt_of_lt_of_le (hF b hb') hb.size) (Enc.prods.mono h (fun _ h => h) (fun b hb' => hb.block b (hF b hb'))) he)
  obtain ⟨z1, z2, z3, z4, -, -⟩ := Gr.err_zero he
  obtain ⟨N, rfl⟩ := Int.eq_ofNat_of_zero_le (show 0 ≤ n by omega)
  rw [Int.toNat_natCast] at HC ⊢
  have HB := Lib.hid hb
  obtain ⟨ab, bb, ob, cb, rfl, hl, b3, b4⟩ := slTwo hb
  have B3 := Lib.hid b3; have B4 := Lib.hid b4; have HF := Lib.hid hF; have HBH := Lib.hid hbh; have HR := Lib.hid hR; have HZ := Lib.hid z2
  have hll : (body.length : Int) ≤ 140737488355328 := by omega
  clear h hF he hb b3 b4 hl hbh hR
  go_enter Try.func125, Try.ntmps125
  go_wp2_with (fail)
  go_at_call 46
  refine (HC.out _ ((Below.refl _ _).alloc (Nat.le_refl _) _)).mono ?_
  rintro e w1 ⟨gE, gF, gW, gR, gM, E, Fs, W, Rc, M, rfl, HG, hst1⟩
  have hst := ((St.init w).alloc #[.int .i64 t, .int .i64 N, vp] 24).join hst1
  have HST := Lib.hid hst
  clear hst hst1 HC
  by_cases h60 : body.length ≤ 60
  · have h60i : (body.length : Int) ≤ 60 := by omega
    have hr0 := HR.out
    rw [decide_eq_true h60, Bool.true_and] at hr0
    clear HR
    have HR : Hid ((body.drop 0).all (Gr.right t N) = R) := Lib.hid hr0
    clear hr0 h60
    have hst := HST.out.alloc #[.slice (some ⟨gE, 0, none⟩) N N, .slice (some ⟨gF, 0, none⟩) N N, .slice (some ⟨gW, 0, none⟩) N N, .slice (some ⟨gR, 0, none⟩) N N, .slice (some ⟨gM, 0, none⟩) N N] 68
    have HST := Lib.hid hst
    clear hst
    go_wp2
    go_loopg [25] body.length (fun gk i wr => ∃ k : Nat, k ≤ body.length ∧ gk = body.length - k ∧ i = .int .i64 k ∧ Hid (∀ x ∈ body.take k, Gr.right t N x = true) ∧ Hid ((body.drop k).all (Gr.right t N) = R) ∧ St w wr [aCel w1.heap.size 68 #[.slice (some ⟨gE, 0, none⟩) N N, .slice (some ⟨gF, 0, none⟩) N N, .slice (some ⟨gW, 0, none⟩) N N, .slice (some ⟨gR, 0, none⟩) N N, .slice (some ⟨gM, 0, none⟩) N N], Fc.aB (.slice (some ⟨gE, 0, none⟩) N N) E, Fc.aU (.slice (some ⟨gF, 0, none⟩) N N) Fs, Fc.aU (.slice (some ⟨gW, 0, none⟩) N N) W, Fc.aB (.slice (some ⟨gR, 0, none⟩) N N) Rc, Fc.aB (.slice (some ⟨gM, 0, none⟩) N N) M, aCel w.heap.size 24 #[.int .i64 t, .int .i64 N, vp]])
    case atStart => exact ⟨0, by omega, by omega, rfl, Lib.hid (by simp), HR, HST.out⟩
    case round =>
      clear HST HR
      obtain ⟨k, hk, hgk, rfl, HA, HR, hst⟩ := hrel
      have HGK := Lib.hid hgk
      clear hgk
      by_cases hlt : k < body.length
      · obtain ⟨rfl, _, _⟩ := B3.out (by omega)
        obtain ⟨s1, s2, -, -⟩ := B4.out k hlt
        have hd := Fc.drop_at hlt (0, 0)
        have htk : body.take (k + 1) = body.take k ++ [body.getD k (0, 0)] := by rw [List.take_succ_eq_append_getElem hlt]; simp [List.getD, List.getElem?_eq_getElem hlt]
        have hr := HR.out
        rw [hd, List.all_cons] at hr
        generalize body.getD k (0, 0) = x at *
        obtain ⟨x1, x2⟩ := x
        simp only at s1 s2
        have c1 := bkeep hst.bel s1
        have c2 := bkeep hst.bel s2
        have hlt2 : (k : Int) < body.length := by omega
        have lb := World.block_lt_of_cell? _ _ c1
        obtain ⟨p0, p1, p2⟩ := hst.at3 6 rfl
        have lg := World.block_lt_of_cell? _ _ p0
        have HST := Lib.hid (hst.skip (.cells #[.int .i64 x1, .int .i64 x2] 61))
        have HA2 : Gr.right t N (x1, x2) = true → Hid (∀ x ∈ body.take (k + 1), Gr.right t N x = true) := fun hx => Lib.hid (fun x hxm => by
          rw [htk, List.mem_append, List.mem_singleton] at hxm
          rcases hxm with h | rfl
          · exact HA.out x h
          · exact hx)
        have HTK := Lib.hid HA2
        clear s1 s2 hd hst HR htk HA2
        cases hg : Gr.right t N (x1, x2)
        · rw [hg, Bool.false_and] at hr
          subst hr
          have HG2 := Lib.hid hg
          have hx : ¬ ((x1 = 1 ∧ 0 ≤ x2 ∧ x2 < t) ∨ (x1 = 2 ∧ 0 ≤ x2 ∧ x2 < N)) := fun e => by
            have := Gr.right_iff (t := t) (n := N) (x := (x1, x2)) |>.2 e
            rw [hg] at this; cases this
          clear hg
          by_cases k1 : x1 = 1
          · subst k1
            by_cases k3 : x2 < 0
            · clear hx
              go_wp2
              go_ret2
              exact ⟨(fun h => by cases h), fun _ => rfl, HST.out.bel⟩
            · have k4 : t ≤ x2 := by omega
              clear hx
              go_wp2
              go_ret2
              exact ⟨(fun h => by cases h), fun _ => rfl, HST.out.bel⟩
          · by_cases k2 : x1 = 2
            · subst k2
              by_cases k3 : x2 < 0
              · clear hx
                go_wp2
                go_ret2
                exact ⟨(fun h => by cases h), fun _ => rfl, HST.out.bel⟩
              · have k4 : (N : Int) ≤ x2 := by omega
                clear hx
                go_wp2
                go_ret2
                exact ⟨(fun h => by cases h), fun _ => rfl, HST.out.bel⟩
            · have b1 : ((x1 : Int) == 1) = false := by rw [beq_eq_false_iff_ne]; exact k1
              have b2 : ((x1 : Int) == 2) = false := by rw [beq_eq_false_iff_ne]; exact k2
              have b3 : ((x1 : Int) != 1) = true := by rw [bne_iff_ne]; exact k1
              have b4 : ((x1 : Int) != 2) = true := by rw [bne_iff_ne]; exact k2
              clear hx k1 k2
              go_wp2
              go_ret2
              exact ⟨(fun h => by cases h), fun _ => rfl, HST.out.bel⟩
        · rw [hg, Bool.true_and] at hr
          have HR := Lib.hid hr
          have HA3 := HTK.out hg
          rcases Gr.right_iff.1 hg with ⟨k1, k2, k3⟩ | ⟨k1, k2, k3⟩
          all_goals
            simp only at k1 k2 k3
            subst k1
            clear hg hr
            go_wp2
            go_roundg (body.length - (k + 1))
            case measure => have := HGK.out; omega
            case rel => exact ⟨k + 1, by omega, rfl, by go_num, HA3, HR, HST.out⟩
      · obtain rfl : k = body.length := by omega
        have hr := HR.out
        rw [List.drop_length] at hr
        have hr2 : true = R := hr
        subst hr2
        obtain ⟨x0, x1, x2, x3, x4⟩ := hst.at5 0 rfl
        have HA2 := HA.out
        rw [List.take_length] at HA2
        have HA3 := Lib.hid HA2
        have HST := Lib.hid (hst.pick [1, 2, 0, 3, 4, 5, 6] 7 rfl rfl)
        clear hst HR hr HA HA2
        go_wp2_with (fail)
        go_at_call 121
        refine (fcBegin_any w _ gE N N gF N N E Fs _ _ _ _ behind body _ F (by rw [HG.out.e]) (by rw [HG.out.f]) (by rw [HG.out.e, HG.out.f]) HG.out.fb HBH.out HB.out (fun x hx => by
          have := HA3.out x hx
          rw [HG.out.e]
          rcases Gr.right_iff.1 this with ⟨a, b, c⟩ | ⟨a, b, c⟩
          · exact .inl ⟨a, b, by have := HZ.out; omega⟩
          · exact .inr ⟨a, b, c⟩) (hst := HST.out)).mono ?_
        rintro e w8 ⟨rfl, hst8⟩
        have HST := Lib.hid hst8
        clear hst8
        go_wp2
        go_ret2
        exact ⟨fun _ => ⟨E, Fs, W, Rc, M, rfl, HG.out⟩, (fun h => by cases h), HST.out.bel⟩
  · have h60i : (60 : Int) < body.length := by omega
    have hr := HR.out
    rw [decide_eq_false h60, Bool.false_and] at hr
    subst hr
    clear HR h60
    go_wp2
    go_ret2
    exact ⟨(fun h => by cases h), fun _ => rfl, (HST.out.skip _).bel⟩
end Go.Proofs.Ytkhjncbjdldpbaa

/-
  v, ok := m[k] and m[k] = v of an own map, and a slice of one element, at the steps of a region that draws its order. (A helper text; it claims nothing of the program.)
-/
namespace Go.Proofs.Ytkhjncbjdldpbaa
set_option linter.unusedVariables false
open Go.ChangeShapes Go.WideShapes Go.ChangeAt Go.RowKit Go.ChangeMaps

section
variable {w0 w : World} {μ : List Asrt} {k e t : TypeId} {b n : Nat} {D : DataW Unit} {ops : Array Oper} {o : Oper} {a : Act} {K : Act → World → Prop} {Q : Exit → Act → World → Prop} {EE : Prop}
theorem St.stepLookOk (hgd : o.guard = none) (m x : Operand) (hop : o.op = Op.lookup t m x true) (KL : WideMaps.KeyLaw Try.prog k) (ht : Try.prog.underlying t = some (.map k e)) (he : Try.prog.underlying e = some (.int .i64)) (hz : ∀ u : World, (zeroValue e).run Try.prog u = .ok (.int .i64 0) u) (h : w.ownsMap Try.prog k (plainElem Try.prog e) b n D) (hm : a.eval m = .map (some b)) (key : Value) {kl : Lit} (hx : a.eval x = key) (hkey : keyOf Try.prog k key = some kl)
    (c : Int) (hc : D.atKey kl (.lit (.int .i64 0)) = .lit (.int .i64 c)) (hK : K (a.put o.dst (.tuple #[.int .i64 c, .bool (Maps.has D kl)])) w) : if Region.wanted o (yielded ops a.tmps) = true then Oper.wp Try.prog o a w K Q else EE := by
  have hw : Region.wanted o (yielded ops a.tmps) = true := by simp [Region.wanted, hgd]
  rw [if_pos hw]
  obtain ⟨v, ps, hl, hv⟩ := h.look_ok (Maps.Keyed.of_law KL) ht (hz w) (plainElem_int he (by decide)) hkey
  obtain ⟨c', rfl, hc', _⟩ := plainElem_int_inv he hv
  have h2 := congrArg Prod.fst hc'
  simp only at h2
  rw [hc] at h2
  cases h2
  unfold Oper.wp
  simp [execOp, hop, hm, hx, hl, Result.andThen]
  exact hK
theorem St.stepPut (hgd : o.guard = none) (m x v : Operand) (hop : o.op = Op.mapUpdate t m x v) (KL : WideMaps.KeyLaw Try.prog k) (ht : Try.prog.underlying t = some (.map k e)) (h : St w0 w (aMap k e b n D :: μ)) (hn : n < maxLen) (hm : a.eval m = .map (some b)) (key val : Value) {kl : Lit} (hx : a.eval x = key) (hv : a.eval v = val) (hkey : keyOf Try.prog k key = some kl)
    (d : DataW Unit) (ps : List MemPlace) (hval : plainElem Try.prog e val = some (d, ps)) (hK : ∀ w', St w0 w' (aMap k e b (n + 1) (D.put kl d) :: μ) → K (a.put o.dst undef) w') : if Region.wanted o (yielded ops a.tmps) = true then Oper.wp Try.prog o a w K Q else EE := by
  have hw : Region.wanted o (yielded ops a.tmps) = true := by simp [Region.wanted, hgd]
  rw [if_pos hw]
  obtain ⟨w', hrun, r1, r2⟩ := h.mapOwn.update (Maps.Keyed.of_law KL) ht hn hkey hval
  unfold Oper.wp
  simp [execOp, hop, hm, hx, hv, hrun, Result.andThen]
  exact hK w' (h.mapPut r1 r2)
end
end Go.Proofs.Ytkhjncbjdldpbaa
