/-
  m[k]++ of a map that the call made, at the steps of a region that draws its order; structs of two numbers as keys. (A helper text; it claims nothing of the program.)
-/
import Derived.Test.YtlgabpcddldelaaDoorMapView
import Derived.WideKeyEntry
import Derived.Maps.OwnOps
namespace Go.Proofs.YtlgabpcddldelaaDoor
set_option linter.unusedVariables false
open Go.ChangeShapes Go.WideShapes Go.ChangeAt Go.RowKit Go.ChangeMaps

section
variable {P : Program} {k e t : TypeId} {w : World} {b n : Nat} {D : DataW Unit}
theorem entry_own (h : w.ownsMap P k (plainElem P e) b n D) (KL : WideMaps.KeyLaw P k) (ht : P.underlying t = some (.map k e)) (he : P.underlying e = some (.int .i64)) (hz : ∀ u : World, (zeroValue e).run P u = .ok (.int .i64 0) u) (hn : n < maxLen)
    {key : Value} {kl : Lit} (hkey : keyOf P k key = some kl) :
    ∃ (v0 : Value) (st : Nat) (es1 : Array MapEntry) (clock1 : Nat) (D1 : DataW Unit), (Instr.mapEntry t (.map (some b)) key).run P w = .ok (.tuple #[v0, goInt st]) (setBlock w b (.map es1 clock1)) ∧
      (setBlock w b (.map es1 clock1)).ownsMap P k (plainElem P e) b (n + 1) D1 ∧ D1.atKey kl (.lit (.int .i64 0)) = D.atKey kl (.lit (.int .i64 0)) ∧
      ∀ (w2 : World) (val : Value) (d : DataW Unit) (ps : List MemPlace), w2.heap[b]? = some (.map es1 clock1) → plainElem P e val = some (d, ps) → ∃ w3, (Instr.entryStore t (.map (some b)) (goInt st) val).run P w2 = .ok () w3 ∧ w3.ownsMap P k (plainElem P e) b (n + 1) (D.put kl d) ∧ w2.grownBy w3 (some b) := by
  have K := Maps.Keyed.of_law KL
  have h0 := h
  have hpz : plainElem (H := Unit) P e (.int .i64 0) = some (.lit (.int .i64 0), []) := plainElem_int he (by decide)
  obtain ⟨es, clock, hb, F, hs, hD⟩ := h
  obtain ⟨v0, st, es1, clock1, hrun, hcase, hstore⟩ := WideElems.entry_then_store KL ht hz hb F hkey
  have hsame : ∀ {c1 c2 : Nat} {x1 x2 : Array MapEntry}, setBlock w b (.map x1 c1) = setBlock w b (.map x2 c2) → x1 = x2 ∧ c1 = c2 := by
    intro c1 c2 x1 x2 hh
    have h1 := congrArg (fun u : World => u.heap[b]?) hh
    simp only [heap_setBlock_same hb] at h1
    simpa using h1
  have hst : ∀ (w2 : World) (val : Value) (d : DataW Unit) (ps : List MemPlace), w2.heap[b]? = some (.map es1 clock1) → plainElem P e val = some (d, ps) → ∃ w3, (Instr.entryStore t (.map (some b)) (goInt st) val).run P w2 = .ok () w3 ∧ w3.ownsMap P k (plainElem P e) b (n + 1) (D.put kl d) ∧ w2.grownBy w3 (some b) := by
    intro w2 val d ps hw2 hval
    obtain ⟨es', clock', g1, g2⟩ := hstore w2 val hw2
    obtain ⟨w', g3, g4, g5⟩ := h0.update K ht hn hkey hval
    rw [g2] at g3
    cases g3
    refine ⟨_, g1, ?_, ⟨rfl, rfl, rfl, by simp [setBlock], fun i _ hi => heap_setBlock_other hw2 _ (fun e => hi (by rw [e]))⟩⟩
    obtain ⟨xs, ck, q1, q2⟩ := g4
    refine ⟨xs, ck, ?_, q2⟩
    rw [heap_setBlock_same hb] at q1
    rw [heap_setBlock_same hw2]
    exact q1
  rcases KL.find w hkey es.toList F.keys with ⟨h1, h2⟩ | ⟨j, e0, h1, h2, h3⟩
  · have hrunE : (Instr.mapEntry t (.map (some b)) key).run P w = .ok (.tuple #[.int .i64 0, goInt clock]) (setBlock w b (.map (es.push ⟨key, .int .i64 0, clock⟩) (clock + 1))) := by
      simp [Instr.mapEntry, run_underlying ht, MapKept.run_getObj_map hb, KL.check w false hkey, h1, hz, MapKept.run_setObj_map _ hb, Result.andThen, setBlock]
    have hrunU : (Instr.mapUpdate t (.map (some b)) key (.int .i64 0)).run P w = .ok () (setBlock w b (.map (es.push ⟨key, .int .i64 0, clock⟩) (clock + 1))) := by
      simp [Instr.mapUpdate, run_underlying ht, MapKept.run_getObj_map hb, KL.check w false hkey, h1, MapKept.run_setObj_map _ hb, Result.andThen, setBlock]
    have hrunL : (Instr.lookup t (.map (some b)) key false).run P w = .ok (.int .i64 0) w := by
      obtain ⟨c, hl, _, _⟩ := h0.lookup_int K ht he (hz w) hkey
      rw [hl]
      have : (Instr.lookup t (.map (some b)) key false).run P w = .ok (.int .i64 0) w := by
        rcases Maps.fit_look false K ht (hz w) hb F hkey with ⟨hr, _, _⟩ | ⟨x0, _, hx0, hxk, _⟩
        · exact hr
        · exact absurd hxk (h2 x0 hx0)
      rw [← hl, this]
    obtain ⟨c, hl, hat, _⟩ := h0.lookup_int K ht he (hz w) hkey
    rw [hrunL] at hl
    cases hl
    obtain ⟨w', g3, g4, g5⟩ := h0.update K ht hn hkey hpz
    rw [hrunU] at g3
    cases g3
    rw [hrunE] at hrun
    have hq := Result.ok.inj hrun
    obtain ⟨e1, e2⟩ := hsame hq.2
    subst e1 e2
    refine ⟨v0, st, _, _, _, by rw [hrunE]; exact hrun, g4, ?_, hst⟩
    rw [Maps.atKey_put_same (by rw [hD]; exact ⟨_, rfl⟩) (K.key hkey), hat]
  · have hj : es[j]? = some e0 := by simpa using h2
    have hsm : es.modify j (fun e => { e with key := key }) = es := by
      apply Array.ext'
      rw [Array.toList_modify, modify_eq_set _ _ _ _ h2]
      have : ({ e0 with key := key } : MapEntry) = e0 := by rw [← h3]
      rw [this]
      exact WideElems.set_self _ _ _ h2
    have hrunE : (Instr.mapEntry t (.map (some b)) key).run P w = .ok (.tuple #[e0.val, goInt e0.born]) (setBlock w b (.map es clock)) := by
      simp [Instr.mapEntry, run_underlying ht, MapKept.run_getObj_map hb, KL.check w false hkey, h1, hj, h3, KL.stays w hkey, hsm, MapKept.run_setObj_map _ hb, Result.andThen, setBlock]
    rw [hrunE] at hrun
    have hq := Result.ok.inj hrun
    obtain ⟨e1, e2⟩ := hsame hq.2
    subst e1 e2
    exact ⟨v0, st, _, _, D, by rw [hrunE]; exact hrun, ⟨es, clock, heap_setBlock_same hb _, F, by omega, hD⟩, rfl, hst⟩
end

/-- A map whose entry at a key has been laid open, to be written. -/
def aEnt (k e t : TypeId) (b n : Nat) (D : DataW Unit) (kl : Lit) (st : Nat) : Asrt where
  fp := [b]
  ok := fun w => ∃ (es1 : Array MapEntry) (clock1 : Nat) (D1 : DataW Unit), w.heap[b]? = some (.map es1 clock1) ∧ w.ownsMap Tryd.prog k (plainElem Tryd.prog e) b (n + 1) D1 ∧ D1.atKey kl (.lit (.int .i64 0)) = D.atKey kl (.lit (.int .i64 0)) ∧
    ∀ (w2 : World) (val : Value) (d : DataW Unit) (ps : List MemPlace), w2.heap[b]? = some (.map es1 clock1) → plainElem Tryd.prog e val = some (d, ps) → ∃ w3, (Instr.entryStore t (.map (some b)) (goInt st) val).run Tryd.prog w2 = .ok () w3 ∧ w3.ownsMap Tryd.prog k (plainElem Tryd.prog e) b (n + 1) (D.put kl d) ∧ w2.grownBy w3 (some b)
  loc := fun w w' hb h => by
    obtain ⟨es1, clock1, D1, h1, ⟨xs, ck, q1, q2⟩, h3, h4⟩ := h
    have hh := hb b (by simp)
    exact ⟨es1, clock1, D1, hh.trans h1, ⟨xs, ck, hh.trans q1, q2⟩, h3, h4⟩

section
variable {w0 w : World} {μ : List Asrt} {k e t : TypeId} {b n : Nat} {D : DataW Unit} {ops : Array Oper} {rest : List Oper} {o : Oper} {a : Act} {K : Act → World → Prop} {Q : Exit → Act → World → Prop} {EE : Prop}
/-- A map's literal: an entry of it. -/
theorem St.insertOp (hgd : o.guard = none) (m x v : Operand) (hop : o.op = Op.insert t m x v) (KL : WideMaps.KeyLaw Tryd.prog k) (ht : Tryd.prog.underlying t = some (.map k e)) (h : St w0 w (aMap k e b n D :: μ)) (hn : n < maxLen) (hm : a.eval m = .map (some b)) (key val : Value) {kl : Lit} (hx : a.eval x = key) (hv : a.eval v = val) (hkey : keyOf Tryd.prog k key = some kl)
    (d : DataW Unit) (ps : List MemPlace) (hval : plainElem Tryd.prog e val = some (d, ps)) (hK : ∀ w', St w0 w' (aMap k e b (n + 1) (D.put kl d) :: μ) → wpList Tryd.prog ops Q rest (a.put o.dst undef) w') : wpList Tryd.prog ops Q (o :: rest) a w := by
  refine wpList_plain hgd fun K' hK' => ?_
  obtain ⟨w', hrun, r1, r2⟩ := h.mapOwn.update (Maps.Keyed.of_law KL) ht hn hkey hval
  unfold Oper.wp
  simp [execOp, hop, hm, hx, hv, hrun, Result.andThen]
  exact hK' _ _ (hK w' (h.mapPut r1 r2))
/-- m[k], at a step. -/
theorem St.stepLook (hgd : o.guard = none) (m x : Operand) (hop : o.op = Op.lookup t m x false) (KL : WideMaps.KeyLaw Tryd.prog k) (ht : Tryd.prog.underlying t = some (.map k e)) (he : Tryd.prog.underlying e = some (.int .i64)) (hz : ∀ u : World, (zeroValue e).run Tryd.prog u = .ok (.int .i64 0) u) (h : w.ownsMap Tryd.prog k (plainElem Tryd.prog e) b n D) (hm : a.eval m = .map (some b)) (key : Value) {kl : Lit} (hx : a.eval x = key) (hkey : keyOf Tryd.prog k key = some kl)
    (c : Int) (hc : D.atKey kl (.lit (.int .i64 0)) = .lit (.int .i64 c)) (hK : K (a.put o.dst (.int .i64 c)) w) : if Region.wanted o (yielded ops a.tmps) = true then Oper.wp Tryd.prog o a w K Q else EE := by
  have hw : Region.wanted o (yielded ops a.tmps) = true := by simp [Region.wanted, hgd]
  rw [if_pos hw]
  obtain ⟨c', hl, hat, _⟩ := h.lookup_int (Maps.Keyed.of_law KL) ht he (hz w) hkey
  rw [hc] at hat
  cases hat
  unfold Oper.wp
  simp [execOp, hop, hm, hx, hl, Result.andThen]
  exact hK
theorem St.stepLook2 (hgd : o.guard = none) (m x : Operand) (hop : o.op = Op.lookup t m x false) (KL : WideMaps.KeyLaw Tryd.prog k) (ht : Tryd.prog.underlying t = some (.map k e)) (he : Tryd.prog.underlying e = some (.int .i64)) (hz : ∀ u : World, (zeroValue e).run Tryd.prog u = .ok (.int .i64 0) u) {kl : Lit} {st : Nat} (h : St w0 w (aEnt k e t b n D kl st :: μ)) (hm : a.eval m = .map (some b)) (key : Value) (hx : a.eval x = key) (hkey : keyOf Tryd.prog k key = some kl)
    (c : Int) (hc : D.atKey kl (.lit (.int .i64 0)) = .lit (.int .i64 c)) (hK : K (a.put o.dst (.int .i64 c)) w) : if Region.wanted o (yielded ops a.tmps) = true then Oper.wp Tryd.prog o a w K Q else EE := by
  obtain ⟨es1, clock1, D1, h1, h2, h3, _⟩ := h.ok _ (.head _)
  exact St.stepLook hgd m x hop KL ht he hz h2 hm key hx hkey c (h3.trans hc) hK
/-- The entry at k, at a step. -/
theorem St.stepEntry (hgd : o.guard = none) (m x : Operand) (hop : o.op = Op.mapEntry t m x) (KL : WideMaps.KeyLaw Tryd.prog k) (ht : Tryd.prog.underlying t = some (.map k e)) (he : Tryd.prog.underlying e = some (.int .i64)) (hz : ∀ u : World, (zeroValue e).run Tryd.prog u = .ok (.int .i64 0) u) (h : St w0 w (aMap k e b n D :: μ)) (hn : n < maxLen) (hm : a.eval m = .map (some b)) (key : Value) {kl : Lit} (hx : a.eval x = key) (hkey : keyOf Tryd.prog k key = some kl)
    (hK : ∀ v0 st w', St w0 w' (aEnt k e t b n D kl st :: μ) → K (a.put o.dst (.tuple #[v0, goInt (st : Nat)])) w') : if Region.wanted o (yielded ops a.tmps) = true then Oper.wp Tryd.prog o a w K Q else EE := by
  have hw : Region.wanted o (yielded ops a.tmps) = true := by simp [Region.wanted, hgd]
  rw [if_pos hw]
  have hown := h.mapOwn
  obtain ⟨v0, st, es1, clock1, D1, hrun, g1, g2, g3⟩ := entry_own hown KL ht he hz hn hkey
  obtain ⟨es, clock, hb, _⟩ := hown
  unfold Oper.wp
  simp only [execOp, hop, hm, hx, Sem.run_bind, hrun, Result.andThen_ok, Sem.run_pure]
  refine hK v0 st _ (h.upd rfl rfl rfl (by simp [setBlock]) (fun i hi hm => heap_setBlock_other hb _ (fun e => hm (by simp [aMap, e]))) ⟨es1, clock1, D1, heap_setBlock_same hb _, g1, g2, g3⟩ (fun i hi => .inl hi) (by simp [aEnt]))
/-- It is written, at a step. -/
theorem St.stepEntryStore (hgd : o.guard = none) (m s v : Operand) (hop : o.op = Op.entryStore t m s v) {kl : Lit} {st : Nat} (h : St w0 w (aEnt k e t b n D kl st :: μ)) (hm : a.eval m = .map (some b)) (hs : a.eval s = goInt (st : Nat)) (val : Value) (hv : a.eval v = val)
    (d : DataW Unit) (ps : List MemPlace) (hval : plainElem Tryd.prog e val = some (d, ps)) (hK : ∀ w', St w0 w' (aMap k e b (n + 1) (D.put kl d) :: μ) → K (a.put o.dst undef) w') : if Region.wanted o (yielded ops a.tmps) = true then Oper.wp Tryd.prog o a w K Q else EE := by
  have hw : Region.wanted o (yielded ops a.tmps) = true := by simp [Region.wanted, hgd]
  rw [if_pos hw]
  obtain ⟨es1, clock1, D1, h1, _, _, h4⟩ := h.ok _ (.head _)
  obtain ⟨w3, hrun, g1, g2⟩ := h4 w val d ps h1 hval
  unfold Oper.wp
  simp only [execOp, hop, hm, hs, hv, Sem.run_bind, hrun, Result.andThen_ok, Sem.run_pure]
  refine hK w3 (h.upd g2.os g2.tape g2.output g2.size (fun i hi hm => g2.block i hi (fun he => hm (by simp [aEnt]; exact (Option.some.inj he)))) g1 (fun i hi => .inl hi) (by simp [aMap]))
end
end Go.Proofs.YtlgabpcddldelaaDoor
