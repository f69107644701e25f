/-
  Parts of the proof of WholeSays, put together: PairSet ClW ClOp ClDn ClChk EvtEq ClSame ClPush RRows ClRt ClRef0 ClRef ClLaw LrChk BdIn. (Helper texts.)
-/
import Derived.Test.YtahoapgmiecphaaG1
import Derived.Deep.RegionLaw
import Derived.Lib.BufferMore

/-
  A slice of pairs that the call made: reading and storing its elements. (A helper text; it claims nothing of the program.)
-/
namespace Go.Proofs.Ytahoapgmiecphaa
set_option linter.unusedVariables false
open Go.ChangeShapes Go.WideShapes Go.ChangeAt Go.RowKit

theorem Own.setAt {w : World} {B : Nat} {e : TypeId} {size g n cap : Nat} {xs ys : List Value} (h : Own w B e size (.slice (some ⟨g, 0, none⟩) n cap) xs) (p : Nat) (u : Value) (hy : cellsOf ys = (cellsOf xs).set p u) (hl : ys.length = xs.length) :
    Own (w.setCell ⟨g, p, none⟩ u) B e size (.slice (some ⟨g, 0, none⟩) n cap) ys := by
  unfold Own at h ⊢
  rw [hl, hy]
  obtain ⟨h1, h2⟩ := h
  refine ⟨by rw [List.length_set]; exact h1, ?_⟩
  rcases h2 with ⟨h2, _⟩ | ⟨g', cap', cur, hv, hB, hg, hn, hc, hcs, htk⟩
  · cases h2
  · simp only [Value.slice.injEq, Option.some.injEq, Addr.mk.injEq] at hv
    obtain ⟨⟨rfl, _⟩, rfl, rfl⟩ := hv
    refine .inr ⟨g, cap, cur.setIfInBounds p u, rfl, hB, heap_setCell_same _ _ _ _ _ _ hg, hn, hc, by simpa using hcs, ?_⟩
    rw [Array.toList_setIfInBounds, List.take_set, htk]

theorem St.setAt {w0 w : World} {μ : List Asrt} {e : TypeId} {size g n cap : Nat} {xs ys : List Value} (h : St w0 w (aOwn e size (.slice (some ⟨g, 0, none⟩) n cap) xs :: μ)) (p : Nat) (u : Value) (hy : cellsOf ys = (cellsOf xs).set p u) (hl : ys.length = xs.length) :
    St w0 (w.setCell ⟨g, p, none⟩ u) (aOwn e size (.slice (some ⟨g, 0, none⟩) n cap) ys :: μ) := by
  refine h.upd rfl rfl rfl (by simp) (fun b hb hm => ?_) (Own.setAt (h.ok _ (.head _)) p u hy hl) (fun b hb => .inl hb) (by simp [aOwn, Value.ownBlock])
  exact heap_setCell_other _ _ _ _ (fun e => hm (by simp [aOwn, Value.ownBlock, e]))

theorem cells_fst (l : List (Int × Int)) (q : Nat) (a : Int) (d : Int × Int) (hq : q < l.length) : cellsOf ((l.set q (a, (l.getD q d).2)).map pairV) = (cellsOf (l.map pairV)).set (q * 2) (.int .i64 a) := by
  induction l generalizing q with
  | nil => simp at hq
  | cons x r ih =>
    cases q with
    | zero => simp [cellsOf, pairV, Value.cells]
    | succ q =>
      have := ih q (by simpa using hq)
      simp only [List.set_cons_succ, List.map_cons, cellsOf, List.flatMap_cons, List.getD_cons_succ] at this ⊢
      rw [this, show (q + 1) * 2 = q * 2 + 1 + 1 by omega]
      simp [pairV, Value.cells]
theorem cells_snd (l : List (Int × Int)) (q : Nat) (a : Int) (d : Int × Int) (hq : q < l.length) : cellsOf ((l.set q ((l.getD q d).1, a)).map pairV) = (cellsOf (l.map pairV)).set (q * 2 + 1) (.int .i64 a) := by
  induction l generalizing q with
  | nil => simp at hq
  | cons x r ih =>
    cases q with
    | zero => simp [cellsOf, pairV, Value.cells]
    | succ q =>
      have := ih q (by simpa using hq)
      simp only [List.set_cons_succ, List.map_cons, cellsOf, List.flatMap_cons, List.getD_cons_succ] at this ⊢
      rw [this, show (q + 1) * 2 + 1 = q * 2 + 1 + 1 + 1 by omega]
      simp [pairV, Value.cells]

section
variable {w0 w : World} {μ : List Asrt} {e : TypeId} {g n cap : Nat} {l : List (Int × Int)}
theorem St.setPair (h : St w0 w (aOwn e 2 (.slice (some ⟨g, 0, none⟩) n cap) (l.map pairV) :: μ)) (q : Nat) (hq : q < l.length) (x : Int × Int) :
    St w0 ((w.setCell ⟨g, q * 2, none⟩ (.int .i64 x.1)).setCell ⟨g, q * 2 + 1, none⟩ (.int .i64 x.2)) (aOwn e 2 (.slice (some ⟨g, 0, none⟩) n cap) ((l.set q x).map pairV) :: μ) := by
  have h1 := h.setAt (q * 2) (.int .i64 x.1) (cells_fst l q x.1 (0, 0) hq) (by simp)
  have h2 := h1.setAt (q * 2 + 1) (.int .i64 x.2) (cells_snd _ q x.2 (0, 0) (by simpa using hq)) (by simp)
  have e1 : ((l.set q (x.1, (l.getD q (0, 0)).2)).set q (((l.set q (x.1, (l.getD q (0, 0)).2)).getD q (0, 0)).1, x.2)) = l.set q x := by
    rw [List.set_set]
    congr 1
    simp [List.getD, hq]
  rw [e1] at h2
  exact h2
theorem St.cellPair (h : St w0 w (aOwn e 2 (.slice (some ⟨g, 0, none⟩) n cap) (l.map pairV) :: μ)) (q : Nat) (hq : q < l.length) :
    w.cell? ⟨g, q * 2, none⟩ = some (.int .i64 (l.getD q (0, 0)).1) ∧ w.cell? ⟨g, q * 2 + 1, none⟩ = some (.int .i64 (l.getD q (0, 0)).2) ∧ w.frozen? ⟨g, q * 2, none⟩ = false ∧ w.frozen? ⟨g, q * 2 + 1, none⟩ = false := by
  have ho := h.own
  have hr := ho
  unfold Own at hr
  have hg : ∃ cur T, w.heap[g]? = some (.cells cur T (0, 0)) := by
    rcases hr.2 with ⟨h2, _⟩ | ⟨g', cap', cur, hv, hB, hg, _⟩
    · cases h2
    · simp only [Value.slice.injEq, Option.some.injEq, Addr.mk.injEq] at hv
      obtain ⟨⟨rfl, _⟩, rfl, rfl⟩ := hv
      exact ⟨cur, _, hg⟩
  obtain ⟨cur, T, hg⟩ := hg
  have hcl := cellsOf_len (size := 2) (us := l.map pairV) (fun u hu => by obtain ⟨x, _, rfl⟩ := List.mem_map.1 hu; rfl)
  rw [List.length_map] at hcl
  have hx : (l.map pairV)[q]'(by simpa using hq) = pairV (l.getD q (0, 0)) := by simp [List.getD, hq]
  have hgt := fun j (hj : j < 2) => cellsOf_get (size := 2) (us := l.map pairV) (fun u hu => by obtain ⟨x, _, rfl⟩ := List.mem_map.1 hu; rfl) q (by simpa using hq) j hj
  rw [hx] at hgt
  have hcells := World.ownsRow.cells (g := g) hr rfl
  have c0 := hcells (q * 2) _ (by have := hgt 0 (by decide); rw [Nat.add_zero] at this; rw [this]; rfl)
  have c1 := hcells (q * 2 + 1) _ (by have := hgt 1 (by decide); rw [this]; rfl)
  have ad : ∀ p, (⟨g, 0, none⟩ : Addr).add p = ⟨g, p, none⟩ := fun p => by unfold Addr.add; split <;> simp_all
  rw [ad] at c0 c1
  exact ⟨c0, c1, frozen_of_row _ _ _ _ _ hg, frozen_of_row _ _ _ _ _ hg⟩
end
end Go.Proofs.Ytahoapgmiecphaa

/-
  The work of one who climbs: act, pop, closes, open of package climb, each once.
-/
namespace Go.Proofs.Ytahoapgmiecphaa
set_option linter.unusedVariables false
open Go.ChangeShapes Go.WideShapes Go.ChangeAt Go.RowKit

theorem evtE3 : ET Try.prog 67 76 2 16 := ET.mk' Try.underlying67 (z := .agg #[.int .i64 0, .int .i64 0]) (by kernel_rfl) rfl (by decide)
theorem todoE : ET Try.prog 223 238 4 32 := ET.mk' Try.underlying223 (z := todoV Cl.z) (by kernel_rfl) rfl (by decide)
theorem pair_one3 (p : Int × Int) : ∀ q ∈ (pairV p).cells.toList, q.oneCell' = true := by
  intro q hq; simp [pairV, Value.cells] at hq; rcases hq with h | h <;> subst h <;> rfl
theorem todo_one (p : Cl.T) : ∀ q ∈ (todoV p).cells.toList, q.oneCell' = true := by
  intro q hq; simp [todoV, Value.cells] at hq; rcases hq with h | h | h | h <;> subst h <;> rfl
theorem todo_size (l : List Cl.T) : ∀ u ∈ l.map todoV, u.cells.size = 4 := by
  intro u hu; obtain ⟨x, _, rfl⟩ := List.mem_map.1 hu; rfl

namespace Cl
/-- The work of a token, in block W: what is ahead (the next one last), what was told. -/
def Wk (w0 w : World) (W : Nat) (t n : Int) (vp : Value) (td : List T) (out : List (Int × Int)) (μ : List Asrt) : Prop :=
  ∃ vt vo, St w0 w (aCel W 325 #[.int .i64 t, .int .i64 n, vp, vt, vo, .int .i64 out.length] :: aOwn 238 4 vt (td.map todoV) :: aOwn 76 2 vo (out.map pairV) :: μ)
section
variable {w0 w w' : World} {W : Nat} {t n : Int} {vp : Value} {td : List T} {out : List (Int × Int)} {μ : List Asrt}
theorem Wk.call (h : Wk w0 w W t n vp td out μ) (hb : Below w.heap.size w w') : Wk w0 w' W t n vp td out μ := by
  obtain ⟨vt, vo, h⟩ := h; exact ⟨vt, vo, h.call hb⟩
theorem Wk.drew (h : Wk w0 w W t n vp td out μ) : Wk w0 w.drew W t n vp td out μ := by
  obtain ⟨vt, vo, h⟩ := h; exact ⟨vt, vo, h.drew⟩
theorem Wk.bel (h : Wk w0 w W t n vp td out μ) : Below w0.heap.size w0 w := by obtain ⟨vt, vo, h⟩ := h; exact h.bel
end
end Cl

set_option maxRecDepth 100000 in
theorem clAct_any (w0 : World) (W : Nat) (t n : Int) (vp : Value) (td : List Cl.T) (out : List (Int × Int)) (μ : List Asrt) (kind nn : Int) (w : World) (h : Cl.Wk w0 w W t n vp td out μ) (hl : out.length ≤ 3000) :
    Calls Try.prog 213 #[.pointer (some ⟨W, 0, none⟩), .int .i64 kind, .int .i64 nn] w fun e w' => e = .returned (.bool (decide (out.length < 2000))) ∧ Cl.Wk w0 w' W t n vp td (out ++ [(kind, nn)]) μ := by
  obtain ⟨vt, vo, hst⟩ := h
  have x4 := hst.celAt (i := 4) rfl; have x5 := hst.celAt (i := 5) rfl
  have f4 := hst.celFree 4; have f5 := hst.celFree 5
  have hstA := (hst.setCel 5 (.int .i64 ((out.length : Int) + 1))).get3
  clear hst
  go_enter Try.func213, Try.ntmps213
  go_wp2_with (at_builtin; refine St.app1n evtE3 rfl (.tmp 18) (.tmp 22) rfl rfl hstA (pairV (kind, nn)) rfl _ 1 rfl (by simp) rfl (pair_one3 _) (by rw [List.length_map]; unfold maxLen; omega) (by rw [List.length_map]; omega) ?_; intro g6 n6 c6 w6 hst6; have y4 := (hst6.nth 1 rfl).celAt (i := 4) rfl; have y5 := (hst6.nth 1 rfl).celAt (i := 5) rfl; have yf4 := (hst6.nth 1 rfl).celFree 4)
  have hfin := ((hst6.get2.setCel 4 (.slice (some ⟨g6, 0, none⟩) n6 c6)).get3).get2
  go_ret
  refine ⟨congrArg (fun b => Ending.returned (.bool b)) (decide_eq_decide.2 (by omega)), vt, .slice (some ⟨g6, 0, none⟩) n6 c6, ?_⟩
  rw [List.length_append, List.length_singleton, List.map_append]
  exact hfin

/-- A cell of a slice of its own whose elements have several cells each. -/
theorem St.cellsN {α : Type} {w0 w : World} {μ : List Asrt} {e : TypeId} {size g n cap : Nat} {l : List α} {f : α → Value} (h : St w0 w (aOwn e size (.slice (some ⟨g, 0, none⟩) n cap) (l.map f) :: μ)) (hsz : ∀ x, (f x).cells.size = size) (i : Nat) (hi : i < l.length) (d : α) (j : Nat) (hj : j < size) (q : Value)
    (hq : (f (l.getD i d)).cells.toList[j]? = some q) : w.cell? ⟨g, i * size + j, none⟩ = some q := by
  have h1 : Own w 0 e size (.slice (some ⟨g, 0, none⟩) n cap) (l.map f) := h.ok _ (.head _)
  have hs2 : ∀ u ∈ l.map f, u.cells.size = size := by
    intro u hu; obtain ⟨y, hy, rfl⟩ := List.mem_map.1 hu; exact hsz y
  unfold Own at h1
  rcases h1.2 with ⟨h2, _⟩ | ⟨g', cap', cur, hv, hB, hg, hn, hc, hcs, htk⟩
  · cases h2
  · simp only [Value.slice.injEq, Option.some.injEq, Addr.mk.injEq] at hv
    obtain ⟨⟨rfl, _⟩, rfl, rfl⟩ := hv
    have h3 := cellsOf_get hs2 i (by rw [List.length_map]; exact hi) j hj
    rw [List.getElem_map, show l[i] = l.getD i d by simp [List.getD, List.getElem?_eq_getElem hi], hq, ← htk] at h3
    have hlt : i * size + j < (l.map f).length * size := by
      rw [List.length_map]
      have : (i + 1) * size ≤ l.length * size := Nat.mul_le_mul_right _ hi
      rw [Nat.add_mul] at this; omega
    rw [List.getElem?_take, if_pos hlt] at h3
    simp only [World.cell?, hg]
    simpa using h3
theorem St.cellTodo {w0 w : World} {μ : List Asrt} {e : TypeId} {g n cap : Nat} {l : List Cl.T} (h : St w0 w (aOwn e 4 (.slice (some ⟨g, 0, none⟩) n cap) (l.map todoV) :: μ)) (i : Nat) (hi : i < l.length) :
    w.cell? ⟨g, i * 4, none⟩ = some (.bool (l.getD i Cl.z).1) ∧ w.cell? ⟨g, i * 4 + 1, none⟩ = some (.int .i64 (l.getD i Cl.z).2.1) ∧ w.cell? ⟨g, i * 4 + 2, none⟩ = some (.int .i64 (l.getD i Cl.z).2.2.1) ∧ w.cell? ⟨g, i * 4 + 3, none⟩ = some (.int .i64 (l.getD i Cl.z).2.2.2) :=
  ⟨h.cellsN (fun _ => rfl) i hi Cl.z 0 (by decide) _ rfl, h.cellsN (fun _ => rfl) i hi Cl.z 1 (by decide) _ rfl, h.cellsN (fun _ => rfl) i hi Cl.z 2 (by decide) _ rfl, h.cellsN (fun _ => rfl) i hi Cl.z 3 (by decide) _ rfl⟩
theorem Own.capLe {w : World} {B : Nat} {e : TypeId} {size : Nat} {ao : Option Addr} {n cap : Nat} {xs : List Value} (h : Own w B e size (.slice ao n cap) xs) : xs.length ≤ cap ∧ n = xs.length := by
  unfold Own at h
  rcases h.2 with ⟨h2, h3⟩ | ⟨g', cap', cur, hv, hB, hg, hn, hc, hcs, htk⟩
  · cases h2; omega
  · cases hv; exact ⟨hn, rfl⟩
theorem Cl.snoc_get (ys : List Cl.T) (x : Cl.T) : (ys ++ [x]).getD ys.length Cl.z = x := by simp [List.getD]

set_option maxRecDepth 100000 in
theorem clPop_any (w0 : World) (W : Nat) (t n : Int) (vp : Value) (ys : List Cl.T) (x : Cl.T) (out : List (Int × Int)) (μ : List Asrt) (w : World) (h : Cl.Wk w0 w W t n vp (ys ++ [x]) out μ) (hl : ys.length ≤ 1000) :
    Calls Try.prog 212 #[.pointer (some ⟨W, 0, none⟩)] w fun e w' => e = .returned (todoV x) ∧ Cl.Wk w0 w' W t n vp ys out μ := by
  obtain ⟨vt, vo, hst⟩ := h
  rcases hst.get2.own.shape with ⟨_, he⟩ | ⟨g, cap, rfl, hg1, hg2⟩
  · simp at he
  have hlen : ((ys ++ [x]).map todoV).length = ys.length + 1 := by simp
  rw [hlen] at hst
  have x3 := hst.celAt (i := 3) rfl
  have f3 := hst.celFree 3
  obtain ⟨c0, c1, c2, c3⟩ := hst.get2.cellTodo ys.length (by simp)
  rw [Cl.snoc_get] at c0 c1 c2 c3
  have hlW := World.block_lt_of_cell? _ _ x3
  have hst2 := ((hst.alloc #[.bool false, .int .i64 0, .int .i64 0, .int .i64 0] 238).alloc #[.bool x.1, .int .i64 x.2.1, .int .i64 x.2.2.1, .int .i64 x.2.2.2] 238).drew
  simp only [World.size_alloc] at hst2
  clear hst
  go_enter Try.func212, Try.ntmps212
  go_wp2
  go_region
  clear x3 f3 c0 c1 c2 c3 hlW
  generalize ((w.alloc (.cells #[.bool false, .int .i64 0, .int .i64 0, .int .i64 0] 238)).alloc (.cells #[.bool x.1, .int .i64 x.2.1, .int .i64 x.2.2.1, .int .i64 x.2.2.2] 238)).drew = W2 at hst2 ⊢
  have hcap : (ys.length : Int) ≤ cap := by
    have := (hst2.get4.own.capLe).1
    simp at this; omega
  have hwr : IntKind.i64.wrap (ys.length : Int) = (ys.length : Int) := IntWalk.i64_in _ ⟨by omega, by omega⟩
  have h0 : (0 : Int) ≤ (ys.length : Int) := by omega
  have x3 := (hst2.nth 2 rfl).celAt (i := 3) rfl
  have f3 := (hst2.nth 2 rfl).celFree 3
  go_wp2
  go_region
  clear hcap hwr h0 x3 f3
  have hst3 := ((hst2.get4.take (todo_size _) ys.length (by simp)).get4.setCel 3 (.slice (some ⟨g, 0, none⟩) ys.length cap)).drew
  rw [List.map_append, List.take_left' (by simp)] at hst3
  clear hst2
  generalize (W2.setCell ⟨W, 3, none⟩ (.slice (some ⟨g, 0, none⟩) ys.length cap)).drew = W3 at hst3 ⊢
  obtain ⟨y0, y1, y2, y3⟩ := hst3.at4 2 rfl
  obtain ⟨z0, z1, z2, z3, zf0, zf1, zf2, zf3⟩ := hst3.get4.cel4
  have hst4 := (((hst3.get4.setCel 0 (.bool x.1)).setCel 1 (.int .i64 x.2.1)).setCel 2 (.int .i64 x.2.2.1)).setCel 3 (.int .i64 x.2.2.2)
  clear hst3
  go_wp2
  obtain ⟨q0, q1, q2, q3⟩ := hst4.at4 0 rfl
  refine bodyPost_ret (v := todoV x) ?_ rfl ?_
  · simp [results, Try.results212, go_sem, q0, q1, q2, q3, todoV]
  · exact ⟨rfl, .slice (some ⟨g, 0, none⟩) ys.length cap, vo, hst4.drop.get3.drop⟩

theorem todo_field1 (a : Bool) (b c d : Int) (w : World) : (Instr.field 238 (.agg #[.bool a, .int .i64 b, .int .i64 c, .int .i64 d]) 1).run Try.prog w = .ok (.int .i64 b) w := by kernel_rfl
namespace Cl
def tdLen (W : Nat) (wr : World) : Nat := match wr.cell? ⟨W, 3, none⟩ with | some (.slice _ n _) => n | _ => 0
theorem tdLen_of {W : Nat} {wr : World} {a : Option Addr} {n c : Nat} (h : wr.cell? ⟨W, 3, none⟩ = some (.slice a n c)) : tdLen W wr = n := by unfold tdLen; rw [h]
theorem Wk.tdLen {w0 w : World} {W : Nat} {t n : Int} {vp : Value} {td : List T} {out : List (Int × Int)} {μ : List Asrt} (h : Wk w0 w W t n vp td out μ) : Cl.tdLen W w = td.length := by
  obtain ⟨vt, vo, hst⟩ := h
  obtain ⟨a, c, rfl⟩ := hst.get2.own.isLen
  rw [Cl.tdLen_of (hst.celAt (i := 3) rfl), List.length_map]
attribute [irreducible] tdLen
def CloRel (X : Option (List T × List (Int × Int))) (w0 : World) (W : Nat) (t n : Int) (vp : Value) (μ : List Asrt) (wr : World) : Prop :=
  ∃ td out, Wk w0 wr W t n vp td out μ ∧ td.length ≤ 1000 ∧ out.length ≤ 2000 ∧ Hid (clo td.reverse out = X)
def CloRet (X : Option (List T × List (Int × Int))) (w0 : World) (W : Nat) (t n : Int) (vp : Value) (μ : List Asrt) (e : Ending) (w' : World) : Prop :=
  e = .returned (.bool X.isSome) ∧ ∃ td' out', Wk w0 w' W t n vp td' out' μ ∧ ∀ x, X = some x → td' = x.1.reverse ∧ out' = x.2
theorem clo_nil {o : List (Int × Int)} : clo [].reverse o = some ([], o) := rfl
theorem clo_stop {ys : List T} {x : T} {o : List (Int × Int)} (h : x.1 = false) : clo (ys ++ [x]).reverse o = some (x :: ys.reverse, o) := by
  rw [List.reverse_append]; show clo (x :: ys.reverse) o = _; rw [clo, if_neg (by simp [h])]
theorem clo_many {ys : List T} {x : T} {o : List (Int × Int)} (h : x.1 = true) (h2 : 2000 ≤ o.length) : clo (ys ++ [x]).reverse o = none := by
  rw [List.reverse_append]; show clo (x :: ys.reverse) o = _; rw [clo, if_pos h, if_pos h2]
theorem clo_step {ys : List T} {x : T} {o : List (Int × Int)} (h : x.1 = true) (h2 : ¬ 2000 ≤ o.length) : clo (ys ++ [x]).reverse o = clo ys.reverse (o ++ [(3, x.2.1)]) := by
  rw [List.reverse_append]; show clo (x :: ys.reverse) o = _; rw [clo, if_pos h, if_neg h2]
end Cl

set_option maxRecDepth 100000 in
theorem clCloses_any (w0 : World) (W : Nat) (t n : Int) (vp : Value) (td : List Cl.T) (out : List (Int × Int)) (μ : List Asrt) (w : World) (h : Cl.Wk w0 w W t n vp td out μ) (hl : td.length ≤ 1000) (ho : out.length ≤ 2000) :
    Calls Try.prog 214 #[.pointer (some ⟨W, 0, none⟩)] w (Cl.CloRet (Cl.clo td.reverse out) w0 W t n vp μ) := by
  generalize hX : Cl.clo td.reverse out = X
  have HX := Lib.hid hX
  clear hX
  go_enter Try.func214, Try.ntmps214
  go_wp2
  go_loopw [2] (fun _ wr => Cl.CloRel X w0 W t n vp μ wr) (fun _ wr => Cl.tdLen W wr)
  case atStart => exact ⟨td, out, h, hl, ho, HX⟩
  case round =>
    clear h hl ho HX td out
    obtain ⟨td, out, h, hl, ho, HX⟩ := hrel
    have hlen := h.tdLen
    rcases List.eq_nil_or_concat td with rfl | ⟨ys, x, rfl⟩
    · have hx := HX.out
      rw [Cl.clo_nil] at hx
      subst hx
      have H := Lib.hid h
      obtain ⟨vt, vo, hst⟩ := h
      rcases hst.get2.own.shape with ⟨rfl, _⟩ | ⟨g, cap, rfl, _, _⟩
      all_goals
        have x3 := hst.celAt (i := 3) rfl
        clear hst hlen
        go_wp2
        go_region
        go_wp2
        go_ret
        exact ⟨rfl, [], out, H.out.drew, fun x hx => by cases hx; exact ⟨rfl, rfl⟩⟩
    · simp only [List.concat_eq_append] at h hl HX hlen
      rw [List.length_append, List.length_singleton] at hl hlen
      have H := Lib.hid h
      have HL := Lib.hid hlen
      obtain ⟨vt, vo, hst⟩ := h
      rcases hst.get2.own.shape with ⟨_, he⟩ | ⟨g, cap, rfl, hg1, hg2⟩
      · simp at he
      rw [List.length_map, List.length_append, List.length_singleton] at hst
      have x3 := hst.celAt (i := 3) rfl
      obtain ⟨c0, -, -, -⟩ := hst.get2.cellTodo ys.length (by simp)
      rw [Cl.snoc_get] at c0
      have hpos : (0 : Int) < (ys.length : Int) + 1 := by omega
      have hwr : IntKind.i64.wrap (ys.length : Int) = (ys.length : Int) := IntWalk.i64_in _ ⟨by omega, by omega⟩
      have h0 : (0 : Int) ≤ (ys.length : Int) := by omega
      clear hst hlen hg1 hg2
      cases hx : x.1
      · rw [hx] at c0
        have hX := HX.out
        rw [Cl.clo_stop hx] at hX
        subst hX
        clear hx HX
        go_wp2
        go_region
        go_wp2
        go_ret
        exact ⟨rfl, ys ++ [x], out, H.out.drew, fun x hx => by cases hx; exact ⟨by simp, rfl⟩⟩
      · rw [hx] at c0
        have HX1 := Lib.hid hx
        clear hx
        go_wp2
        go_region
        clear x3 c0 hpos hwr h0
        have H2 := Lib.hid H.out.drew
        generalize wr.drew = W2 at H2 ⊢
        go_wp2_with (fail)
        go_at_call 212
        refine (clPop_any w0 W t n vp ys x out μ _ H2.out (by omega)).mono ?_
        rintro e w1 ⟨rfl, H3⟩
        replace H3 := Lib.hid H3
        unfold todoV
        have hfd := todo_field1 x.1 x.2.1 x.2.2.1 x.2.2.2
        by_cases h4 : 2000 ≤ out.length
        · have hX := HX.out
          rw [Cl.clo_many HX1.out h4] at hX
          have hd : decide (out.length < 2000) = false := decide_eq_false (by omega)
          subst hX
          clear HX
          go_wp2_with (fail)
          go_at_call 213
          refine (clAct_any w0 W t n vp ys out μ 3 x.2.1 _ H3.out (by omega)).mono ?_
          rw [hd]
          rintro e w2 ⟨rfl, H4⟩
          replace H4 := Lib.hid H4
          go_wp2
          go_ret
          exact ⟨rfl, ys, out ++ [(3, x.2.1)], H4.out, fun x hx => by cases hx⟩
        · have hX := HX.out
          rw [Cl.clo_step HX1.out h4] at hX
          have hd : decide (out.length < 2000) = true := decide_eq_true (by omega)
          have HX2 := Lib.hid hX
          clear HX hX
          go_wp2_with (fail)
          go_at_call 213
          refine (clAct_any w0 W t n vp ys out μ 3 x.2.1 _ H3.out (by omega)).mono ?_
          rw [hd]
          rintro e w2 ⟨rfl, H4⟩
          have hlen := H4.tdLen
          replace H4 := Lib.hid H4
          have HL4 := Lib.hid hlen
          clear hlen hd
          go_wp2
          go_roundw
          case rel => exact ⟨ys, out ++ [(3, x.2.1)], H4.out, by omega, by rw [List.length_append, List.length_singleton]; omega, HX2⟩
          case measure => rw [HL4.out, HL.out]; omega
end Go.Proofs.Ytahoapgmiecphaa

/-
  The work of one who climbs: open of package climb.
-/
namespace Go.Proofs.Ytahoapgmiecphaa
set_option linter.unusedVariables false
open Go.ChangeShapes Go.WideShapes Go.ChangeAt Go.RowKit

namespace Cl
/-- What open lays: the end of the production, then its body from behind. -/
def laid (p : Nat) (body : List (Int × Int)) (k : Nat) (ys : List T) : List T := ys ++ (true, (p : Int), 0, 0) :: ((body.drop k).reverse.map fun s => (false, 0, s.1, s.2))
theorem laid_all {p : Nat} {body : List (Int × Int)} {ys : List T} : laid p body body.length ys = ys ++ [(true, (p : Int), 0, 0)] := by simp [laid]
theorem laid_step {p : Nat} {body : List (Int × Int)} {ys : List T} {k : Nat} (h : k < body.length) : laid p body k ys = laid p body (k + 1) ys ++ [(false, 0, (body.getD k (0, 0)).1, (body.getD k (0, 0)).2)] := by
  unfold laid
  rw [List.drop_eq_getElem_cons h, List.reverse_cons, List.map_append, show body.getD k (0, 0) = body[k] by simp [List.getD, List.getElem?_eq_getElem h]]
  simp
theorem laid_put {ps : List (Int × List (Int × Int))} {p : Nat} {ys : List T} : laid p (ps.getD p (0, [])).2 0 ys = (put ps p ys.reverse).reverse := by
  simp [laid, put]
theorem laid_len {p : Nat} {body : List (Int × Int)} {ys : List T} {k : Nat} : (laid p body k ys).length = ys.length + 1 + (body.length - k) := by simp [laid]; omega
def OpRel (p : Nat) (body : List (Int × Int)) (ys : List T) (out : List (Int × Int)) (w0 : World) (W : Nat) (t n : Int) (vp : Value) (μ : List Asrt) (i : Value) (wr : World) : Prop :=
  ∃ k : Nat, k ≤ body.length ∧ i = .int .i64 ((k : Int) - 1) ∧ Wk w0 wr W t n vp (laid p body k ys) out μ
attribute [irreducible] laid
end Cl

set_option maxRecDepth 100000 in
set_option maxHeartbeats 4000000 in
theorem clOpen_any (w0 : World) (W : Nat) (t n : Int) (vp : Value) (l : List (Int × List (Int × Int))) (ys : List Cl.T) (x : Cl.T) (out : List (Int × Int)) (μ : List Asrt) (p : Nat) (w : World) (F : Nat → Prop) (hp : Enc.prods.R F w0 [vp] l) (hl : l.length ≤ 40) (hpl : p < l.length)
    (h8 : (l.getD p (0, [])).2.length ≤ 8) (h : Cl.Wk w0 w W t n vp (ys ++ [x]) out μ) (hy : ys.length ≤ 60) (ho : out.length ≤ 2000) :
    Calls Try.prog 219 #[.pointer (some ⟨W, 0, none⟩), .int .i64 p] w fun e w' => e = .returned (.bool (decide (out.length < 2000 ∧ (Cl.put l p ys.reverse).length ≤ 60))) ∧ Cl.Wk w0 w' W t n vp (Cl.put l p ys.reverse).reverse (out ++ [(1, (p : Int))]) μ := by
  obtain ⟨ao, bp, op, cp, rfl, -, p3, p4⟩ := slProds hp
  obtain ⟨rfl, -, -⟩ := p3 (by omega)
  obtain ⟨vb, -, q1, q2, -⟩ := p4 p hpl
  have hput := (Cl.laid_put (ps := l) (p := p) (ys := ys)).symm
  have hplen : (Cl.put l p ys.reverse).length = ys.length + 1 + (l.getD p (0, [])).2.length := by
    have := congrArg List.length hput
    rw [List.length_reverse, Cl.laid_len] at this
    omega
  rw [hput, hplen]
  generalize (l.getD p (0, [])).2 = body at *
  obtain ⟨aob, bb, ob, cb, rfl, -, b3, b4⟩ := slTwo q2
  have B3 := Lib.hid b3; have B4 := Lib.hid b4
  clear hput hplen p3 p4 q2 b3 b4 hp
  have hpl2 : (p : Int) < l.length := by omega
  have h0p : (0 : Int) ≤ (p : Int) := by omega
  go_enter Try.func219, Try.ntmps219
  go_wp2_with (fail)
  go_at_call 212
  refine (clPop_any w0 W t n _ ys x out μ _ h (by omega)).mono ?_
  rintro e w1 ⟨rfl, H1⟩
  clear h
  obtain ⟨vt, vo, hst⟩ := H1
  have x2 := hst.celAt (i := 2) rfl
  have x3 := hst.celAt (i := 3) rfl
  have f3 := hst.celFree 3
  have q1' := bkeep hst.bel q1
  have hst2 := hst.get2
  have hWl := (hst.lo _ (.head _) W (by simp [aCel])).1
  have lb : bp < w0.heap.size := World.block_lt_of_cell? _ _ q1
  have hb0 := hst.bel.size
  have hne : bp ≠ W := by omega
  clear hst
  go_wp2_with (at_builtin; refine St.app1n todoE rfl (.tmp 13) (.tmp 16) rfl rfl hst2 (todoV (true, (p : Int), 0, 0)) rfl _ 1 rfl (by simp) rfl (todo_one _) (by rw [List.length_map]; unfold maxLen; omega) (by rw [List.length_map]; omega) ?_; intro g6 n6 c6 w6 hst6; have y3 := (hst6.nth 1 rfl).celAt (i := 3) rfl; have yf3 := (hst6.nth 1 rfl).celFree 3; have y2 := (hst6.nth 1 rfl).celAt (i := 2) rfl; have q1'' := bkeep hst6.bel q1; have hb6 := hst6.bel.size; have hW6 := World.block_lt_of_cell? _ _ y3)
  have hst7 := (hst6.get2.setCel 3 (.slice (some ⟨g6, 0, none⟩) n6 c6)).get2
  have hrel : Cl.OpRel p body ys out w0 W t n (.slice (some ⟨bp, op, none⟩) l.length cp) μ (.int .i64 ((body.length : Int) - 1)) (w6.setCell ⟨W, 3, none⟩ (.slice (some ⟨g6, 0, none⟩) n6 c6)) := ⟨body.length, Nat.le_refl _, rfl, .slice (some ⟨g6, 0, none⟩) n6 c6, vo, by rw [Cl.laid_all, List.map_append]; exact hst7.get2⟩
  have HREL := Lib.hid hrel
  have HNE := Lib.hid (show ∀ m : Nat, m < body.length → bb ≠ W by intro m hm; have := (B3.out (by omega)).2.1; omega)
  clear hst2 hst6 hst7 x2 x3 f3 y2 y3 yf3 q1'' hrel q1 q1' hb6 hW6 lb hb0
  generalize w6.setCell ⟨W, 3, none⟩ (.slice (some ⟨g6, 0, none⟩) n6 c6) = W7 at HREL ⊢
  go_loopw [6] (fun i wr => Cl.OpRel p body ys out w0 W t n (.slice (some ⟨bp, op, none⟩) l.length cp) μ i wr) (fun i _ => (intOf i + 1).toNat)
  case atStart => exact HREL.out
  case round =>
    clear HREL W7
    obtain ⟨k, hk, rfl, vt, vo, hst⟩ := hrel
    by_cases hk0 : 0 < k
    · obtain ⟨j, rfl⟩ : ∃ j, k = j + 1 := ⟨k - 1, by omega⟩
      rw [show ((j + 1 : Nat) : Int) - 1 = (j : Int) by omega]
      have hjl : j < body.length := by omega
      obtain ⟨rfl, hbb, -⟩ := B3.out (by omega)
      obtain ⟨s1, s2, -, -⟩ := B4.out j hjl
      have q3 := bkeep hst.bel s1
      have q4 := bkeep hst.bel s2
      have hstep := Cl.laid_step (p := p) (ys := ys) hjl
      generalize body.getD j (0, 0) = y at *
      have hll := Cl.laid_len (p := p) (body := body) (ys := ys) (k := j + 1)
      have HST := Lib.hid hstep
      have x3 := hst.celAt (i := 3) rfl
      have f3 := hst.celFree 3
      have hstD := hst.get2.drew
      obtain ⟨y1, y2⟩ := y
      simp only at q3 q4
      have l1 := World.block_lt_of_cell? _ _ q3
      have l2 := World.block_lt_of_cell? _ _ x3
      have hne := HNE.out _ hjl
      have h40 := (Cl.laid p body (j + 1) ys).length
      clear s1 s2 hstep hst hk0
      go_wp2
      go_region_law ((refine St.step1n todoE (by rfl) (.tmp 40) (.tmp 46) (by rfl) (by rfl) hstD (todoV (false, 0, y1, y2)) rfl _ 1 rfl (by simp) rfl (todo_one _) (by rw [List.length_map]; unfold maxLen; omega) (by rw [List.length_map]; omega) ?_; intro g5 n5 c5 w5 hst5; have y3 := (hst5.nth 1 rfl).celAt (i := 3) rfl; have yf3 := (hst5.nth 1 rfl).celFree 3))
      all_goals
        go_wp2
        have hst6 := (hst5.get2.setCel 3 (.slice (some ⟨g5, 0, none⟩) n5 c5)).get2
        have hrel : Cl.OpRel p body ys out w0 W t n (.slice (some ⟨bp, op, none⟩) l.length cp) μ (.int .i64 ((j : Int) - 1)) (w5.setCell ⟨W, 3, none⟩ (.slice (some ⟨g5, 0, none⟩) n5 c5)) := ⟨j, by omega, rfl, .slice (some ⟨g5, 0, none⟩) n5 c5, vo, by rw [HST.out, List.map_append]; exact hst6.get2⟩
        go_roundw
        case rel => first | exact hrel | exact ⟨_, hrel, rfl⟩ | exact ⟨_, _, hrel, rfl, rfl⟩
        case measure => first | (simp [intOf]; done) | (simp [intOf]; omega)
    · obtain rfl : k = 0 := by omega
      have hll := Cl.laid_len (p := p) (body := body) (ys := ys) (k := 0)
      have H9 := Lib.hid (show Cl.Wk w0 wr W t n (.slice (some ⟨bp, op, none⟩) l.length cp) (Cl.laid p body 0 ys) out μ from ⟨vt, vo, hst⟩)
      clear hst hk0 hk
      obtain ⟨td, htd⟩ : ∃ td, Cl.laid p body 0 ys = td := ⟨_, rfl⟩
      have HTD := Lib.hid htd
      rw [htd] at hll H9
      clear htd
      by_cases h20 : out.length < 2000
      · have hd : decide (out.length < 2000) = true := decide_eq_true h20
        go_wp2_with (fail)
        go_at_call 213
        refine (clAct_any w0 W t n _ td out μ 1 p _ H9.out (by omega)).mono ?_
        rw [hd]
        rintro e w2 ⟨rfl, H4⟩
        have H5 := Lib.hid H4
        obtain ⟨vt2, vo2, hst⟩ := H4
        obtain ⟨a2, c2, rfl⟩ := hst.get2.own.isLen
        rw [List.length_map] at hst
        have x3 := hst.celAt (i := 3) rfl
        clear hst hd
        go_wp2
        go_ret
        exact ⟨congrArg (fun b => Ending.returned (.bool b)) (decide_eq_decide.2 (by omega)), by rw [HTD.out]; exact H5.out⟩
      · have hd : decide (out.length < 2000) = false := decide_eq_false h20
        go_wp2_with (fail)
        go_at_call 213
        refine (clAct_any w0 W t n _ td out μ 1 p _ H9.out (by omega)).mono ?_
        rw [hd]
        rintro e w2 ⟨rfl, H4⟩
        have H5 := Lib.hid H4
        clear H4 hd
        go_wp2
        go_ret
        exact ⟨congrArg (fun b => Ending.returned (.bool b)) (decide_eq_false (by omega)).symm, by rw [HTD.out]; exact H5.out⟩
end Go.Proofs.Ytahoapgmiecphaa

/-
  The work of one who climbs: down of package climb.
-/
namespace Go.Proofs.Ytahoapgmiecphaa
set_option linter.unusedVariables false
open Go.ChangeShapes Go.WideShapes Go.ChangeAt Go.RowKit

namespace Cl
theorem clo_some (a : List T) : ∀ (o a' : _) (o' : List (Int × Int)), clo a o = some (a', o') → (∀ x ∈ a', x ∈ a) ∧ a'.length ≤ a.length ∧ o.length ≤ o'.length ∧ (o.length ≤ 2000 → o'.length ≤ 2000) ∧ ∀ x r, a' = x :: r → x.1 = false := by
  induction a with
  | nil => intro o a' o' h; cases h; exact ⟨fun _ h => h, Nat.le_refl _, Nat.le_refl _, id, fun x r h => by cases h⟩
  | cons x r ih =>
    intro o a' o' h
    rw [clo] at h
    split at h
    · split at h
      · cases h
      · rename_i h1 h2
        obtain ⟨i1, i2, i3, i4, i5⟩ := ih _ _ _ h
        rw [List.length_append, List.length_singleton] at i3 i4
        exact ⟨fun y hy => .tail _ (i1 y hy), by rw [List.length_cons]; omega, by omega, fun _ => i4 (by omega), i5⟩
    · rename_i h1
      cases h; exact ⟨fun _ h => h, Nat.le_refl _, Nat.le_refl _, id, fun y q h => by cases h; simpa using h1⟩
section
variable {ps : List (Int × List (Int × Int))} {rows : List (List Int)} {c f : Nat} {a r : List T} {x : T} {o o' : List (Int × Int)} {q : Int}
theorem dn_many (h : clo a o = none) : dn ps rows c (f + 1) a o = (14, [], []) := by rw [dn, h]
theorem dn_nil (h : clo a o = some ([], o')) : dn ps rows c (f + 1) a o = (0, [], o') := by rw [dn, h]
theorem dn_term (h : clo a o = some (x :: r, o')) (hk : x.2.2.1 = 1) : dn ps rows c (f + 1) a o = (0, x :: r, o') := by rw [dn, h]; simp only [hk, if_true]
theorem dn_bad (h : clo a o = some (x :: r, o')) (hk : x.2.2.1 ≠ 1) (hq : (rows.getD x.2.2.2.toNat []).getD c 0 = q) (h2 : q < 0) : dn ps rows c (f + 1) a o = (13, [], []) := by rw [dn, h]; simp only [hk, if_false, hq, h2, if_true]
theorem dn_deep (h : clo a o = some (x :: r, o')) (hk : x.2.2.1 ≠ 1) (hq : (rows.getD x.2.2.2.toNat []).getD c 0 = q) (h2 : ¬ q < 0) (h3 : ¬ (o'.length < 2000 ∧ (put ps q.toNat r).length ≤ 60)) : dn ps rows c (f + 1) a o = (14, [], []) := by
  have h4 : 2000 ≤ o'.length ∨ 60 < (put ps q.toNat r).length := by omega
  rw [dn, h]; simp only [hk, if_false, hq, h2, h4, if_true]
theorem dn_step (h : clo a o = some (x :: r, o')) (hk : x.2.2.1 ≠ 1) (hq : (rows.getD x.2.2.2.toNat []).getD c 0 = q) (h2 : ¬ q < 0) (h3 : o'.length < 2000 ∧ (put ps q.toNat r).length ≤ 60) : dn ps rows c (f + 1) a o = dn ps rows c f (put ps q.toNat r) (o' ++ [(1, q)]) := by
  have h4 : ¬ (2000 ≤ o'.length ∨ 60 < (put ps q.toNat r).length) := by omega
  rw [dn, h]; simp only [hk, if_false, hq, h2, h4]
end
/-- A right grammar's bodies may be ahead. -/
theorem put_good {t n : Int} {l : List (Int × List (Int × Int))} {p : Nat} {r : List T} (hb : ∀ y ∈ (l.getD p (0, [])).2, Gr.right t n y = true) (hp : p < l.length) (hr : ∀ x ∈ r, good t n l.length x = true) : ∀ x ∈ put l p r, good t n l.length x = true := by
  intro x hx
  rcases List.mem_append.1 hx with h | h
  · obtain ⟨y, hy, rfl⟩ := List.mem_map.1 h
    rw [good_sym, hb y hy]; simp
  · rcases List.mem_cons.1 h with rfl | h
    · rw [good_close]; exact decide_eq_true ⟨by omega, by omega, rfl, rfl⟩
    · exact hr x h
theorem good_open {t n : Int} {np : Nat} {x : T} (h : good t n np x = true) (hc : x.1 = false) : (x.2.2.1 = 1 ∧ 0 ≤ x.2.2.2 ∧ x.2.2.2 < t) ∨ (x.2.2.1 = 2 ∧ 0 ≤ x.2.2.2 ∧ x.2.2.2 < n) := by
  obtain ⟨a, m, k, s⟩ := x
  simp only at hc
  subst hc
  rw [good_sym, Bool.and_eq_true] at h
  exact Gr.right_iff.1 h.2
def acts (W : Nat) (wr : World) : Nat := match wr.cell? ⟨W, 5, none⟩ with | some (.int _ n) => n.toNat | _ => 0
theorem acts_of {W : Nat} {wr : World} {n : Nat} (h : wr.cell? ⟨W, 5, none⟩ = some (.int .i64 n)) : acts W wr = n := by unfold acts; rw [h]; simp
theorem Wk.acts {w0 w : World} {W : Nat} {t n : Int} {vp : Value} {td : List T} {out : List (Int × Int)} {μ : List Asrt} (h : Wk w0 w W t n vp td out μ) : Cl.acts W w = out.length := by
  obtain ⟨vt, vo, hst⟩ := h
  exact Cl.acts_of (hst.celAt (i := 5) rfl)
attribute [irreducible] acts
def DnRet (X : Int × List T × List (Int × Int)) (w0 : World) (W : Nat) (t n : Int) (np : Nat) (vp : Value) (μ : List Asrt) (e : Ending) (w' : World) : Prop :=
  e = .returned (.int .i64 X.1) ∧ ∃ td' out', Wk w0 w' W t n vp td' out' μ ∧ (X.1 = 0 → td' = X.2.1.reverse ∧ out' = X.2.2 ∧ td'.length ≤ 60 ∧ out'.length ≤ 2000 ∧ ∀ x ∈ td', good t n np x = true)
def DnRel (ps : List (Int × List (Int × Int))) (rows : List (List Int)) (c : Nat) (X : Int × List T × List (Int × Int)) (w0 : World) (W : Nat) (t n : Int) (vp : Value) (μ : List Asrt) (wr : World) : Prop :=
  ∃ f td out, Wk w0 wr W t n vp td out μ ∧ td.length ≤ 60 ∧ out.length ≤ 2000 ∧ 2001 ≤ f + out.length ∧ Hid (∀ x ∈ td, good t n ps.length x = true) ∧ Hid (dn ps rows c f td.reverse out = X)
theorem rw_zero {t n : Int} {l : List (Int × List (Int × Int))} {rows : List (List Int)} (h : Rw.all t n l rows = 0) : Gr.err t n l = 0 ∧ (rows.length : Int) = n ∧ Rw.Good t l rows := by
  by_cases h1 : Gr.err t n l = 0
  · rw [Rw.all_go h1] at h
    by_cases h2 : (rows.length : Int) = n
    · by_cases h3 : Rw.Good t l rows
      · exact ⟨h1, h2, h3⟩
      · rw [Rw.err_bad h3] at h; omega
    · rw [Rw.err_len h2] at h; omega
  · rw [Rw.all_ne h1] at h; exact absurd h h1
end Cl

set_option maxRecDepth 100000 in
set_option maxHeartbeats 8000000 in
theorem clDown_any (w0 : World) (W : Nat) (t n : Int) (vp vr : Value) (l : List (Int × List (Int × Int))) (rows : List (List Int)) (c : Nat) (td : List Cl.T) (out : List (Int × Int)) (μ : List Asrt) (w : World) (F : Nat → Prop) (hp : Enc.prods.R F w0 [vp] l)
    (hr : (((Enc.int .i64).sl 8).sl 24).R F w0 [vr] rows) (he : Rw.all t n l rows = 0) (hc : (c : Int) ≤ t) (h : Cl.Wk w0 w W t n vp td out μ) (hl : td.length ≤ 60) (ho : out.length = 0) (hg : ∀ x ∈ td, Cl.good t n l.length x = true) :
    Calls Try.prog 211 #[.pointer (some ⟨W, 0, none⟩), vr, .int .i64 c] w (Cl.DnRet (Cl.dn l rows c 2001 td.reverse out) w0 W t n l.length vp μ) := by
  obtain ⟨hz1, hz2, hz3⟩ := Cl.rw_zero he
  obtain ⟨hz4, hz5, hz6, hz7, hl40, hz8⟩ := Gr.err_zero hz1
  have HPR := Lib.hid (fun (p : Nat) (hp : p < l.length) => hz8 (l.getD p (0, [])) (by simp [List.getD, List.getElem?_eq_getElem hp]))
  have HRW := Lib.hid hz3
  have HP := Lib.hid hp
  obtain ⟨aor, br, or_, cr, rfl, -, r3, r4⟩ := slSl hr
  have R3 := Lib.hid r3; have R4 := Lib.hid r4
  generalize hX : Cl.dn l rows c 2001 td.reverse out = X
  have HX := Lib.hid hX
  have HGD := Lib.hid hg
  clear hX hp hr he hz1 hz3 hz8 r3 r4 hg
  go_enter Try.func211, Try.ntmps211
  go_wp2
  go_loopw [6] (fun _ wr => Cl.DnRel l rows c X w0 W t n vp μ wr) (fun _ wr => 2001 - Cl.acts W wr)
  case atStart => exact ⟨2001, td, out, h, hl, by omega, by omega, HGD, HX⟩
  case round =>
    clear h hl ho HX HGD td out
    obtain ⟨f, td, out, h, hl, ho, hf, HGD, HX⟩ := hrel
    obtain ⟨f, rfl⟩ : ∃ g, f = g + 1 := ⟨f - 1, by omega⟩
    have HAC := Lib.hid h.acts
    have hcon := clCloses_any w0 W t n vp td out μ wr h (by omega) ho
    clear h
    obtain ⟨Y, hY⟩ : ∃ Y, Cl.clo td.reverse out = Y := ⟨_, rfl⟩
    rw [hY] at hcon
    have HC := Lib.hid hcon
    have HY := Lib.hid hY
    clear hcon hY
    rcases Y with _ | ⟨r, o2⟩
    · have hx := HX.out
      rw [Cl.dn_many HY.out] at hx
      subst hx
      clear HX
      go_wp2_with (fail)
      go_at_call 214
      refine HC.out.mono ?_
      rintro e w1 ⟨he, td2, out2, H1, -⟩
      replace he : e = .returned (.bool false) := he
      subst he
      go_wp2
      go_ret
      exact ⟨rfl, td2, out2, H1, fun h => by cases h⟩
    · obtain ⟨s1, s2, s3, s4, s5⟩ := Cl.clo_some _ _ _ _ HY.out
      have HS5 := Lib.hid s5
      have HS1 : Hid (∀ x ∈ r, Cl.good t n l.length x = true) := Lib.hid (fun x hx => HGD.out x (by simpa using s1 x hx))
      replace s4 := s4 ho
      rw [List.length_reverse] at s2
      clear s1 s5
      go_wp2_with (fail)
      go_at_call 214
      refine HC.out.mono ?_
      rintro e w1 ⟨he, td2, out2, H1, hx⟩
      replace he : e = .returned (.bool true) := he
      subst he
      obtain ⟨rfl, rfl⟩ := hx _ rfl
      clear hx
      rcases r with _ | ⟨x, r⟩
      · have hx := HX.out
        rw [Cl.dn_nil HY.out] at hx
        subst hx
        clear HX
        have H2 := Lib.hid H1
        obtain ⟨vt, vo, hst⟩ := H1
        rcases hst.get2.own.shape with ⟨rfl, _⟩ | ⟨g, cap, rfl, _, _⟩
        all_goals
          have x3 := hst.celAt (i := 3) rfl
          clear hst
          go_wp2
          go_region
          go_wp2
          go_ret
          exact ⟨rfl, _, _, H2.out.drew, fun _ => ⟨rfl, rfl, by simp, s4, by simp⟩⟩
      · obtain ⟨ys, rfl⟩ : ∃ ys : List Cl.T, r = ys.reverse := ⟨r.reverse, by simp⟩
        rw [List.reverse_cons, List.reverse_reverse] at H1
        rw [List.length_cons, List.length_reverse] at s2
        have hx1 := HS5.out x _ rfl
        rcases Cl.good_open (HS1.out x (.head _)) hx1 with ⟨hk, hk0, hk1⟩ | ⟨hk, hk0, hk1⟩
        · have hx := HX.out
          rw [Cl.dn_term HY.out hk] at hx
          subst hx
          clear HX
          have H2 := Lib.hid H1
          obtain ⟨vt, vo, hst⟩ := H1
          rcases hst.get2.own.shape with ⟨_, he⟩ | ⟨g, cap, rfl, hg1, hg2⟩
          · simp at he
          rw [List.length_map, List.length_append, List.length_singleton] at hst
          have x3 := hst.celAt (i := 3) rfl
          obtain ⟨-, -, c2, -⟩ := hst.get2.cellTodo ys.length (by simp)
          rw [Cl.snoc_get, hk] at c2
          have hpos : (((ys.length : Int) + 1) == 0) = false := by rw [beq_eq_false_iff_ne]; omega
          have hwr : IntKind.i64.wrap (ys.length : Int) = (ys.length : Int) := IntWalk.i64_in _ (by omega)
          have h0 : (0 : Int) ≤ (ys.length : Int) := by omega
          clear hst hg1 hg2 hk hk0 hk1 hx1
          go_wp2
          go_region
          go_wp2
          go_ret
          exact ⟨rfl, _, _, H2.out.drew, fun _ => ⟨by simp, rfl, by simp; omega, s4, fun y hy => HS1.out y (by simp at hy ⊢; exact hy.symm)⟩⟩
        · have hkn : x.2.2.1 ≠ 1 := by omega
          have hkb : (x.2.2.1 == 1) = false := by rw [beq_eq_false_iff_ne]; exact hkn
          obtain ⟨s, hs⟩ : ∃ s : Nat, x.2.2.2 = s := Int.eq_ofNat_of_zero_le hk0
          have hsl : s < rows.length := by omega
          obtain ⟨rfl, hbr, -⟩ := R3.out (by omega)
          obtain ⟨ai, ci, q2, q3⟩ := R4.out s hsl
          obtain ⟨hrow, hgood⟩ := HRW.out s hsl
          obtain ⟨_, bs, os, _, hv, -, q4, q5⟩ := Enc.sl1 (En := Enc.int .i64) (Value.int .i64) (fun _ _ _ h => h.1) rfl 0 q3
          simp only [Value.slice.injEq, true_and] at hv
          obtain ⟨rfl, rfl⟩ := hv
          have hcl : c < (rows.getD s []).length := by omega
          obtain ⟨rfl, hbs, -⟩ := q4 (by omega)
          have q6 := (q5 c hcl).1
          obtain ⟨g1, g2, -⟩ := hgood c hcl
          obtain ⟨q, hq⟩ : ∃ q, (rows.getD s []).getD c 0 = q := ⟨_, rfl⟩
          rw [hq] at q6 g1 g2
          have HQ : Hid ((rows.getD x.2.2.2.toNat []).getD c 0 = q) := Lib.hid (by rw [hs, Int.toNat_natCast]; exact hq)
          generalize (rows.getD s []).length = ln at *
          have H2 := Lib.hid H1
          obtain ⟨vt, vo, hst⟩ := H1
          rcases hst.get2.own.shape with ⟨_, he⟩ | ⟨g, cap, rfl, hga, hgb⟩
          · simp at he
          rw [List.length_map, List.length_append, List.length_singleton] at hst
          have x3 := hst.celAt (i := 3) rfl
          obtain ⟨-, -, c2, c3⟩ := hst.get2.cellTodo ys.length (by simp)
          rw [Cl.snoc_get] at c2 c3
          rw [hs] at c3
          have q2 := bkeep hst.bel q2
          have q6 := bkeep hst.bel q6
          have hpos : (((ys.length : Int) + 1) == 0) = false := by rw [beq_eq_false_iff_ne]; omega
          have hwr : IntKind.i64.wrap (ys.length : Int) = (ys.length : Int) := IntWalk.i64_in _ (by omega)
          have h0 : (0 : Int) ≤ (ys.length : Int) := by omega
          have HNT := Lib.hid hkn
          have hsl2 : (s : Int) < rows.length := by omega
          have hcl2 : (c : Int) < ln := by omega
          have h0s : (0 : Int) ≤ (s : Int) := by omega
          have h0c : (0 : Int) ≤ (c : Int) := by omega
          clear hst hga hgb hk hk0 hk1 hkn hs q3 q4 q5 hrow hgood hcl hq hbr hbs hx1 hsl hz2 hz4 hz5 hz6 hz7
          go_wp2
          go_region
          have H3 := Lib.hid H2.out.drew
          clear H2
          go_wp2
          have x3' : w1.drew.cell? ⟨W, 3, none⟩ = _ := x3
          have c3' : w1.drew.cell? ⟨g, ys.length * 4 + 3, none⟩ = _ := c3
          have q2' : w1.drew.cell? ⟨br, or_ + s, none⟩ = _ := q2
          have q6' : w1.drew.cell? ⟨bs, os + c, none⟩ = _ := q6
          clear x3 c2 c3 q2 q6
          generalize w1.drew = W2 at *
          go_region
          have H4 := Lib.hid H3.out.drew
          clear H3 x3' c3' q2' q6' hpos hwr h0 hsl2 hcl2 h0s h0c hkb
          generalize W2.drew = W3 at *
          by_cases hq0 : q < 0
          · have hx := HX.out
            rw [Cl.dn_bad HY.out HNT.out HQ.out hq0] at hx
            subst hx
            clear HX
            go_wp2
            go_ret
            exact ⟨rfl, _, _, H4.out, fun h => by cases h⟩
          · obtain ⟨p, rfl⟩ := Int.eq_ofNat_of_zero_le (by omega : 0 ≤ q)
            have hpl : p < l.length := by omega
            obtain ⟨hb8, -, -, hbg⟩ := HPR.out p hpl
            have hcon := clOpen_any w0 W t n vp l ys x out2 μ p W3 F HP.out hl40 hpl hb8 H4.out (by omega) s4
            have HNP : Hid (∀ y ∈ Cl.put l p ys.reverse, Cl.good t n l.length y = true) := Lib.hid (Cl.put_good hbg hpl (fun y hy => HS1.out y (.tail _ hy)))
            have HQ0 := Lib.hid hq0
            have hpq : (p : Int).toNat = p := Int.toNat_natCast p
            by_cases hok : out2.length < 2000 ∧ (Cl.put l p ys.reverse).length ≤ 60
            · rw [decide_eq_true hok] at hcon
              have hx := HX.out
              rw [Cl.dn_step HY.out HNT.out HQ.out HQ0.out (by rw [hpq]; exact hok), hpq] at hx
              have HX2 := Lib.hid hx
              generalize Cl.put l p ys.reverse = td2 at *
              have HCO := Lib.hid hcon
              have h20 := hok.1
              have h60 := hok.2
              clear hx HX hcon hbg hb8 hpq hok hq0
              go_wp2_with (fail)
              go_at_call 219
              refine HCO.out.mono ?_
              rintro e w2 ⟨rfl, H5⟩
              have HAC5 := Lib.hid H5.acts
              have H6 := Lib.hid H5
              clear H5
              go_wp2
              have hrel : Cl.DnRel l rows c X w0 W t n vp μ w2 := ⟨f, td2.reverse, out2 ++ [(1, (p : Int))], H6.out, by rw [List.length_reverse]; exact h60, by rw [List.length_append, List.length_singleton]; omega, by rw [List.length_append, List.length_singleton]; omega, Lib.hid (fun y hy => HNP.out y (by simpa using hy)), by rw [List.reverse_reverse]; exact HX2⟩
              go_roundw
              case rel => exact hrel
              case measure => rw [HAC.out, HAC5.out, List.length_append, List.length_singleton]; omega
            · rw [decide_eq_false hok] at hcon
              have hx := HX.out
              rw [Cl.dn_deep HY.out HNT.out HQ.out HQ0.out (by rw [hpq]; exact hok)] at hx
              subst hx
              have HCO := Lib.hid hcon
              clear HX hcon hbg hb8 hpq hok hq0
              go_wp2_with (fail)
              go_at_call 219
              refine HCO.out.mono ?_
              rintro e w2 ⟨rfl, H5⟩
              go_wp2
              go_ret
              exact ⟨rfl, _, _, H5, fun h => by cases h⟩
end Go.Proofs.Ytahoapgmiecphaa

/-
  check of package climb: what is wrong with a grammar, rows, a climber and a column.
-/
namespace Go.Proofs.Ytahoapgmiecphaa
set_option linter.unusedVariables false
open Go.ChangeShapes Go.WideShapes Go.ChangeAt Go.RowKit

namespace Cl
/-- What is ahead and how much was seen: may it be handed in? -/
def fits (t n : Int) (np : Nat) (td : List T) (seen : Int) : Bool := decide (td.length ≤ 60) && decide (0 ≤ seen) && decide (seen ≤ 1099511627776) && !(td.any fun x => !good t n np x)
theorem fits_iff {t n : Int} {np : Nat} {td : List T} {seen : Int} : fits t n np td seen = true ↔ td.length ≤ 60 ∧ 0 ≤ seen ∧ seen ≤ 1099511627776 ∧ (td.any fun x => !good t n np x) = false := by
  simp only [fits, Bool.and_eq_true, decide_eq_true_eq, Bool.not_eq_true', and_assoc]
/-- What check tells (te: what is wrong with the rows). -/
def chk (te t : Int) (fit over : Bool) (col : Int) : Int := if te ≠ 0 then te else if fit = true ∧ 0 ≤ col ∧ col ≤ t then (if over = true then 15 else 0) else 1
def wrong (te : Int) (fit : Bool) : Int := if te ≠ 0 then te else if fit = true then 0 else 1
theorem wrong_ok : wrong 0 true = 0 := by simp [wrong]
theorem wrong_no : wrong 0 false = 1 := by simp [wrong]
theorem wrong_te {te : Int} {f : Bool} (h : te ≠ 0) : wrong te f = te := by rw [wrong, if_pos h]
theorem chk_te {te t : Int} {fit over : Bool} {col : Int} (h : te ≠ 0) : chk te t fit over col = te := by rw [chk, if_pos h]
theorem chk_bad {t : Int} {fit over : Bool} {col : Int} (h : ¬ (fit = true ∧ 0 ≤ col ∧ col ≤ t)) : chk 0 t fit over col = 1 := by rw [chk, if_neg (by simp), if_neg h]
theorem chk_over {t : Int} {fit : Bool} {col : Int} (h : fit = true ∧ 0 ≤ col ∧ col ≤ t) : chk 0 t fit true col = 15 := by rw [chk, if_neg (by simp), if_pos h, if_pos rfl]
theorem chk_ok {t : Int} {fit : Bool} {col : Int} (h : fit = true ∧ 0 ≤ col ∧ col ≤ t) : chk 0 t fit false col = 0 := by rw [chk, if_neg (by simp), if_pos h, if_neg (by simp)]
theorem chk_zero {te t : Int} {fit over : Bool} {col : Int} (h : chk te t fit over col = 0) : te = 0 ∧ over = false ∧ fit = true ∧ 0 ≤ col ∧ col ≤ t := by
  by_cases h1 : te = 0
  · subst h1
    by_cases h2 : fit = true ∧ 0 ≤ col ∧ col ≤ t
    · cases over
      · exact ⟨rfl, rfl, h2.1, h2.2.1, h2.2.2⟩
      · rw [chk_over h2] at h; omega
    · rw [chk_bad h2] at h; omega
  · rw [chk_te h1] at h; exact absurd h h1
/-- What the law asks: at a terminal, at the end. -/
def atTerm (e t : Int) (over : Bool) (term : Int) : Int :=
  let e1 := if e = 0 ∧ (term < 0 ∨ t ≤ term) then 1 else e
  if e1 = 0 ∧ over = true then 15 else e1
def atEnd (e : Int) (over : Bool) : Int := if e = 0 ∧ over = true then 15 else e
theorem chk_term {te t : Int} (ht : te = 0 → 0 ≤ t) {fit over : Bool} {term : Int} : chk te t fit over (if term = t then -1 else term) = atTerm (wrong te fit) t over term := by
  by_cases h1 : te = 0
  · subst h1
    have ht := ht rfl
    cases fit
    · rw [chk_bad (by simp), atTerm, wrong_no]; simp
    · rw [wrong_ok]
      by_cases h3 : term < 0 ∨ t ≤ term
      · rw [chk_bad (by split <;> omega), atTerm]; simp [h3]
      · have h4 : ¬ term = t := by omega
        rw [if_neg h4, atTerm]
        cases over
        · rw [chk_ok ⟨rfl, by omega, by omega⟩]; simp [h3]
        · rw [chk_over ⟨rfl, by omega, by omega⟩]; simp [h3]
  · rw [wrong_te h1, chk_te h1, atTerm]; simp [h1]
theorem chk_end {te t : Int} (ht : te = 0 → 0 ≤ t) {fit over : Bool} : chk te t fit over t = atEnd (wrong te fit) over := by
  by_cases h1 : te = 0
  · subst h1
    have ht := ht rfl
    cases fit
    · rw [chk_bad (by simp), atEnd, wrong_no]; simp
    · rw [wrong_ok, atEnd]
      cases over
      · rw [chk_ok ⟨rfl, by omega, by omega⟩]; simp
      · rw [chk_over ⟨rfl, by omega, by omega⟩]; simp
  · rw [wrong_te h1, chk_te h1, atEnd]; simp [h1]
theorem alts (len : Nat) (seen col t : Int) :
    60 < len ∨ (len ≤ 60 ∧ seen < 0) ∨ (len ≤ 60 ∧ 0 ≤ seen ∧ 1099511627776 < seen) ∨ (len ≤ 60 ∧ 0 ≤ seen ∧ seen ≤ 1099511627776 ∧ col < 0) ∨ (len ≤ 60 ∧ 0 ≤ seen ∧ seen ≤ 1099511627776 ∧ 0 ≤ col ∧ t < col) ∨
    (len ≤ 60 ∧ 0 ≤ seen ∧ seen ≤ 1099511627776 ∧ 0 ≤ col ∧ col ≤ t) := by omega
attribute [irreducible] fits chk wrong atTerm atEnd
end Cl

set_option maxRecDepth 100000 in
set_option maxHeartbeats 8000000 in
theorem clCheck_any (t n seen ov col : Int) (dn : Bool) (vp vr vs : Value) (l : List (Int × List (Int × Int))) (rows : List (List Int)) (td : List Cl.T) (w : World) (F : Nat → Prop) (hF : ∀ b, F b → b < w.heap.size) (h : Enc.prods.R F w [vp] l)
    (hr : (((Enc.int .i64).sl 8).sl 24).R F w [vr] rows) (hs : (Enc.todo.sl 32).R F w [vs] td) :
    Calls Try.prog 208 #[.agg #[.int .i64 t, .int .i64 n, vp], vr, .agg #[vs, .int .i64 seen, .int .i64 ov, .bool dn], .int .i64 col] w fun e w' => e = .returned (.int .i64 (Cl.chk (Rw.all t n l rows) t (Cl.fits t n l.length td seen) (decide (ov ≠ 0) || dn) col)) ∧ Below w.heap.size w w' := by
  have HC := Lib.hid (fun W' (hW : Below w.heap.size w W') => llCheck_any t n vp vr l rows W' F (fun b hb => Nat.lt_of_lt_of_le (hF b hb) hW.size) (Enc.mono _ h (fun _ h => h) (fun b hb => hW.block b (hF b hb))) (Enc.mono _ hr (fun _ h => h) (fun b hb => hW.block b (hF b hb))))
  obtain ⟨aop, -, -, cp, rfl, -⟩ := slProds h
  have HI := Lib.hid (fun W' (hW : Below w.heap.size w W') G hT => clIn_any t n l.length aop cp G td vs W' F (Enc.mono _ hs (fun _ h => h) (fun b hb => hW.block b (hF b hb))) hT)
  obtain ⟨aos, -, -, cs, rfl, -⟩ := slTodo hs
  have hst := ((St.init w).alloc #[.int .i64 t, .int .i64 n, .slice aop l.length cp] 24).alloc #[.slice aos td.length cs, .int .i64 seen, .int .i64 ov, .bool dn] 225
  simp only [World.size_alloc] at hst
  clear h hr hs hF
  generalize hA : (td.any fun x => !Cl.good t n l.length x) = A at *
  generalize hE : Rw.all t n l rows = E at *
  obtain ⟨R, hR⟩ : ∃ R, Cl.chk E t (Cl.fits t n l.length td seen) (decide (ov ≠ 0) || dn) col = R := ⟨_, rfl⟩
  rw [hR]
  have HTE : Hid (E ≠ 0 → R = E) := Lib.hid (fun g => by rw [← hR]; exact Cl.chk_te g)
  have HBAD : Hid (E = 0 → ¬ (td.length ≤ 60 ∧ 0 ≤ seen ∧ seen ≤ 1099511627776 ∧ A = false ∧ 0 ≤ col ∧ col ≤ t) → R = 1) := Lib.hid (fun g g2 => by
    rw [← hR, g]
    refine Cl.chk_bad (fun q => g2 ?_)
    have := Cl.fits_iff.1 q.1
    rw [hA] at this
    exact ⟨this.1, this.2.1, this.2.2.1, this.2.2.2, q.2⟩)
  have HOK : Hid (E = 0 → td.length ≤ 60 ∧ 0 ≤ seen ∧ seen ≤ 1099511627776 ∧ A = false ∧ 0 ≤ col ∧ col ≤ t → R = if (decide (ov ≠ 0) || dn) = true then 15 else 0) := Lib.hid (fun g g2 => by
    have hf : Cl.fits t n l.length td seen = true := Cl.fits_iff.2 ⟨g2.1, g2.2.1, g2.2.2.1, by rw [hA]; exact g2.2.2.2.1⟩
    rw [← hR, g, hf]
    cases (decide (ov ≠ 0) || dn)
    · rw [Cl.chk_ok ⟨rfl, g2.2.2.2.2⟩]; rfl
    · rw [Cl.chk_over ⟨rfl, g2.2.2.2.2⟩]; rfl)
  clear hA hR hE
  by_cases hE : E ≠ 0
  · have HE := Lib.hid (HTE.out hE)
    have hEb : (E != 0) = true := by rw [bne_iff_ne]; exact hE
    clear hE
    go_enter Try.func208, Try.ntmps208
    go_wp2_with (fail)
    go_at_call 123
    refine (HC.out _ hst.bel).mono ?_
    rintro e w1 ⟨rfl, hb1⟩
    replace hst := hst.call hb1
    clear hb1
    obtain ⟨g0, g1, g2⟩ := hst.at3 1 rfl
    obtain ⟨s0, s1, s2, s3⟩ := hst.at4 0 rfl
    go_wp2
    go_ret
    exact ⟨by rw [HE.out]; rfl, hst.bel⟩
  obtain rfl : E = 0 := by omega
  clear hE
  rcases Cl.alts td.length seen col t with h | ⟨h1, h⟩ | ⟨h1, h2, h⟩ | ⟨h1, h2, h3, h⟩ | ⟨h1, h2, h3, h4, h⟩ | ⟨h1, h2, h3, h4, h5⟩
  · have HE := Lib.hid (HBAD.out rfl (by omega))
    go_enter Try.func208, Try.ntmps208
    go_wp2_with (fail)
    go_at_call 123
    refine (HC.out _ hst.bel).mono ?_
    rintro e w1 ⟨rfl, hb1⟩
    replace hst := hst.call hb1
    clear hb1
    obtain ⟨g0, g1, g2⟩ := hst.at3 1 rfl
    obtain ⟨s0, s1, s2, s3⟩ := hst.at4 0 rfl
    go_wp2
    go_ret
    exact ⟨by rw [HE.out]; rfl, hst.bel⟩
  · have HE := Lib.hid (HBAD.out rfl (by omega))
    go_enter Try.func208, Try.ntmps208
    go_wp2_with (fail)
    go_at_call 123
    refine (HC.out _ hst.bel).mono ?_
    rintro e w1 ⟨rfl, hb1⟩
    replace hst := hst.call hb1
    clear hb1
    obtain ⟨g0, g1, g2⟩ := hst.at3 1 rfl
    obtain ⟨s0, s1, s2, s3⟩ := hst.at4 0 rfl
    go_wp2
    go_ret
    exact ⟨by rw [HE.out]; rfl, hst.bel⟩
  · have HE := Lib.hid (HBAD.out rfl (by omega))
    go_enter Try.func208, Try.ntmps208
    go_wp2_with (fail)
    go_at_call 123
    refine (HC.out _ hst.bel).mono ?_
    rintro e w1 ⟨rfl, hb1⟩
    replace hst := hst.call hb1
    clear hb1
    obtain ⟨g0, g1, g2⟩ := hst.at3 1 rfl
    obtain ⟨s0, s1, s2, s3⟩ := hst.at4 0 rfl
    go_wp2
    go_ret
    exact ⟨by rw [HE.out]; rfl, hst.bel⟩
  · have HE := Lib.hid (HBAD.out rfl (by omega))
    go_enter Try.func208, Try.ntmps208
    go_wp2_with (fail)
    go_at_call 123
    refine (HC.out _ hst.bel).mono ?_
    rintro e w1 ⟨rfl, hb1⟩
    replace hst := hst.call hb1
    clear hb1
    obtain ⟨g0, g1, g2⟩ := hst.at3 1 rfl
    obtain ⟨s0, s1, s2, s3⟩ := hst.at4 0 rfl
    go_wp2
    go_ret
    exact ⟨by rw [HE.out]; rfl, hst.bel⟩
  · have HE := Lib.hid (HBAD.out rfl (by omega))
    go_enter Try.func208, Try.ntmps208
    go_wp2_with (fail)
    go_at_call 123
    refine (HC.out _ hst.bel).mono ?_
    rintro e w1 ⟨rfl, hb1⟩
    replace hst := hst.call hb1
    clear hb1
    obtain ⟨g0, g1, g2⟩ := hst.at3 1 rfl
    obtain ⟨s0, s1, s2, s3⟩ := hst.at4 0 rfl
    go_wp2
    go_ret
    exact ⟨by rw [HE.out]; rfl, hst.bel⟩
  · cases A
    · have HO := Lib.hid (HOK.out rfl ⟨h1, h2, h3, rfl, h4, h5⟩)
      by_cases ho : ov = 0
      · subst ho
        cases dn
        all_goals
          have HE := HO
          simp only [ne_eq, not_true_eq_false, decide_false, Bool.or_false, Bool.or_true, Bool.false_eq_true, if_false, if_true] at HE
          go_enter Try.func208, Try.ntmps208
          go_wp2_with (fail)
          go_at_call 123
          refine (HC.out _ hst.bel).mono ?_
          rintro e w1 ⟨rfl, hb1⟩
          replace hst := hst.call hb1
          clear hb1
          obtain ⟨g0, g1, g2⟩ := hst.at3 1 rfl
          obtain ⟨s0, s1, s2, s3⟩ := hst.at4 0 rfl
          go_wp2_with (fail)
          go_at_call 215
          refine (HI.out _ hst.bel w.heap.size ⟨g0, g1, g2⟩).mono ?_
          rintro e w2 ⟨rfl, hb2⟩
          replace hst := hst.call hb2
          clear hb2 g0 g1 g2 s0 s1 s2 s3
          obtain ⟨s0, s1, s2, s3⟩ := hst.at4 0 rfl
          go_wp2
          go_ret
          exact ⟨by rw [HE.out]; rfl, hst.bel⟩
      · have hob : (ov != 0) = true := by rw [bne_iff_ne]; exact ho
        have HE : Hid (R = 15) := Lib.hid (by rw [HO.out]; simp [ho])
        clear ho
        go_enter Try.func208, Try.ntmps208
        go_wp2_with (fail)
        go_at_call 123
        refine (HC.out _ hst.bel).mono ?_
        rintro e w1 ⟨rfl, hb1⟩
        replace hst := hst.call hb1
        clear hb1
        obtain ⟨g0, g1, g2⟩ := hst.at3 1 rfl
        obtain ⟨s0, s1, s2, s3⟩ := hst.at4 0 rfl
        go_wp2_with (fail)
        go_at_call 215
        refine (HI.out _ hst.bel w.heap.size ⟨g0, g1, g2⟩).mono ?_
        rintro e w2 ⟨rfl, hb2⟩
        replace hst := hst.call hb2
        clear hb2 g0 g1 g2 s0 s1 s2 s3
        obtain ⟨s0, s1, s2, s3⟩ := hst.at4 0 rfl
        go_wp2
        go_ret
        exact ⟨by rw [HE.out]; rfl, hst.bel⟩
    · have HE := Lib.hid (HBAD.out rfl (by simp))
      go_enter Try.func208, Try.ntmps208
      go_wp2_with (fail)
      go_at_call 123
      refine (HC.out _ hst.bel).mono ?_
      rintro e w1 ⟨rfl, hb1⟩
      replace hst := hst.call hb1
      clear hb1
      obtain ⟨g0, g1, g2⟩ := hst.at3 1 rfl
      obtain ⟨s0, s1, s2, s3⟩ := hst.at4 0 rfl
      go_wp2_with (fail)
      go_at_call 215
      refine (HI.out _ hst.bel w.heap.size ⟨g0, g1, g2⟩).mono ?_
      rintro e w2 ⟨rfl, hb2⟩
      replace hst := hst.call hb2
      clear hb2 g0 g1 g2 s0 s1 s2 s3
      obtain ⟨s0, s1, s2, s3⟩ := hst.at4 0 rfl
      go_wp2
      go_ret
      exact ⟨by rw [HE.out]; rfl, hst.bel⟩
end Go.Proofs.Ytahoapgmiecphaa

/-
  slices.Equal on alike lists of events; events as they come in.
-/
namespace Go.Proofs.Ytahoapgmiecphaa
set_option linter.unusedVariables false
open Go.ChangeShapes Go.WideShapes Go.ChangeAt Go.RowKit

set_option maxRecDepth 100000 in
theorem eqEvts {v1 v2 : Value} {l : List (Int × Int)} (w : World) {F1 F2 : Nat → Prop} (h1 : (Enc.two.sl 16).R F1 w [v1] l) (h2 : (Enc.two.sl 16).R F2 w [v2] l) :
    Calls Try.prog 28 #[v1, v2] w fun e w' => e = .returned (.bool true) ∧ Below w.heap.size w w' := by
  obtain ⟨a1, b1, o1, c1, rfl, k1, k3, k4⟩ := slTwo h1
  obtain ⟨a2, b2, o2, c2, rfl, g1, g3, g4⟩ := slTwo h2
  have hll : (l.length : Int) ≤ 140737488355328 := by omega
  have K3 := Lib.hid k3; have K4 := Lib.hid k4; have G3 := Lib.hid g3; have G4 := Lib.hid g4
  clear k3 k4 g3 g4 h1 h2 k1 g1
  have hne : ((l.length : Int) != (l.length : Int)) = false := by rw [bne_eq_false_iff_eq]
  go_enter Try.func28, Try.ntmps28
  go_wp2
  go_loopw [5, 13] (fun _ i wr => ∃ k : Nat, k ≤ l.length ∧ i = .int .i64 k ∧ Below w.heap.size w wr) (fun _ i _ => l.length - (intOf i).toNat)
  case atStart => exact ⟨0, by omega, rfl, Below.refl _ _⟩
  case round =>
    obtain ⟨k, hk, rfl, hB⟩ := hrel
    by_cases hlt : k < l.length
    · obtain ⟨rfl, _⟩ := K3.out (by omega)
      obtain ⟨rfl, _⟩ := G3.out (by omega)
      have hc1 := bkeep hB (K4.out k hlt).1
      have hc2 := bkeep hB (K4.out k hlt).2.1
      have hc3 := bkeep hB (G4.out k hlt).1
      have hc4 := bkeep hB (G4.out k hlt).2.1
      generalize l.getD k (0, 0) = x at hc1 hc2 hc3 hc4
      obtain ⟨x1, x2⟩ := x
      simp only at hc1 hc2 hc3 hc4
      clear K3 K4 G3 G4
      go_wp2
      go_quiet (fail)
      go_wp2
      go_roundw
      case rel => exact ⟨k + 1, by omega, by go_num, below_drewN hB _⟩
      case measure => simp [intOf]; omega
    · clear K3 K4 G3 G4
      go_wp2
      go_ret
      exact ⟨rfl, hB⟩

theorem opens_evts : Opens Try.prog 67 (Enc.two.sl 16) :=
  Opens.sl Try.underlying67 (by kernel_rfl) (by decide) (by kernel_rfl) (opens_two Try.underlying76 (by kernel_rfl) rfl rfl (by kernel_rfl) (by kernel_rfl) Try.underlying3 Try.underlying3)
end Go.Proofs.Ytahoapgmiecphaa

/-
  same and begun of package climb; SameClimber of the reference on alike climbers.
-/
namespace Go.Proofs.Ytahoapgmiecphaa
set_option linter.unusedVariables false
open Go.ChangeShapes Go.WideShapes Go.ChangeAt Go.RowKit

theorem todo_cells {F : Nat → Prop} {w : World} {cs : List Value} {x : Cl.T} (h : Enc.todo.R F w cs x) : cs = (todoV x).cells.toList := by
  obtain ⟨c1, c2, rfl, hb, c3, c4, rfl, ⟨rfl, _⟩, h5⟩ := h
  have hb' : c1 = [.bool x.1] := hb
  subst hb'
  obtain ⟨rfl, _, _⟩ := two_cells h5
  rfl
theorem St.emptyT {w0 w : World} {μ : List Asrt} (h : St w0 w μ) (T : TypeId) (size : Nat) : St w0 (w.alloc (.cells #[] T)) (aOwn T size (.slice (some ⟨w.heap.size, 0, none⟩) 0 0) [] :: μ) := by
  refine h.push ((Below.refl _ _).alloc (Nat.le_refl _) _) ⟨by simp [cellsOf], .inr ⟨w.heap.size, 0, #[], rfl, Nat.zero_le _, heap_alloc_new _ _, Nat.le_refl _, Nat.zero_le _, by simp, by simp [cellsOf]⟩⟩ (fun b hb => ?_) (by simp [aOwn, Value.ownBlock])
  simp [aOwn, Value.ownBlock] at hb
  subst hb
  simp

set_option maxRecDepth 100000 in
theorem cloneTodo_any {v : Value} {l : List Cl.T} (w : World) {F : Nat → Prop} (hF : ∀ b, F b → b < w.heap.size) (h : (Enc.todo.sl 32).R F w [v] l) :
    Calls Try.prog 218 #[v] w fun e w' => ∃ v', e = .returned v' ∧ Own w' w.heap.size 238 4 v' (l.map todoV) ∧ Below w.heap.size w w' := by
  have H := Lib.hid h; have HF := Lib.hid hF; clear hF
  obtain ⟨ao, b, off, cap, hv, c1, c2, c3, c4, c5, _⟩ := h
  simp only [List.cons.injEq, and_true] at hv
  subst hv
  cases ao with
  | none =>
    have hl : l = [] := by
      rcases l with _ | ⟨x, r⟩
      · rfl
      · have := (c5 (by simp)).1; cases this
    subst hl
    have hnil := fun W => Lib.run_eql_slice_nil_nil (P := Try.prog) W 0 cap Try.underlying223
    simp only [List.length_nil] at *
    clear c1 c2 c3 c4 c5
    go_enter Try.func218, Try.ntmps218
    go_wp2
    go_ret
    exact ⟨_, rfl, Own.nil _ _ _ _, Below.refl _ _⟩
  | some a =>
    have hnil := fun W => Lib.run_eql_slice_some_nil (P := Try.prog) W a l.length cap Try.underlying223
    have C3 := Lib.hid c3
    clear c1 c2 c3 c4 c5
    go_enter Try.func218, Try.ntmps218
    go_wp2_with (at_builtin; refine St.appSl todoE rfl _ _ rfl rfl ((St.init w).emptyT 238 4) rfl (Enc.mono _ H.out (fun _ h => h) (fun b hb => Below.heap_alloc _ _ _ (HF.out b hb))) rfl todoV (fun w cs a h => todo_cells h) (fun a q hq => todo_one a q hq) (by have := C3.out; simp; omega) (by have := C3.out; simp; omega) ?_; intro v' w1 hst1)
    go_ret
    exact ⟨v', rfl, by simpa using hst1.own, hst1.bel⟩


set_option maxRecDepth 100000 in
set_option maxHeartbeats 4000000 in
theorem clSame_any {v : Value} {l : List Cl.T} (a b : Int) (d : Bool) (w : World) {F : Nat → Prop} (hF : ∀ b, F b → b < w.heap.size) (h : (Enc.todo.sl 32).R F w [v] l) :
    Calls Try.prog 209 #[.agg #[v, .int .i64 a, .int .i64 b, .bool d]] w fun e w' => ∃ v', e = .returned (.agg #[v', .int .i64 a, .int .i64 b, .bool d]) ∧ Own w' w.heap.size 238 4 v' (l.map (todoV)) ∧ Below w.heap.size w w' := by
  obtain ⟨ao, -, -, cap, rfl, hroom, -⟩ := slTodo h
  have hst := ((St.init w).alloc #[.slice ao l.length cap, .int .i64 a, .int .i64 b, .bool d] 225).alloc #[.slice none 0 0, .int .i64 0, .int .i64 0, .bool false] 225
  simp only [World.size_alloc] at hst
  have HCL := Lib.hid (cloneTodo_any (l := l) _ (fun b hb => Nat.lt_of_lt_of_le (hF b hb) hst.bel.size) (Enc.mono _ h (fun _ h => h) (fun b hb => hst.bel.block b (hF b hb))))
  clear h hF hroom
  go_enter Try.func209, Try.ntmps209
  go_wp2_with (fail)
  go_at_call 218
  refine HCL.out.mono ?_
  rintro e w1 ⟨v', rfl, ho, hb1⟩
  obtain ⟨a2, c2, rfl⟩ := ho.isLen
  rw [List.length_map] at ho ⊢
  replace hst := hst.pushOwn hb1 ho
  obtain ⟨x0, x1, x2, x3, xf0, xf1, xf2, xf3⟩ := hst.get3.cel4
  obtain ⟨y0, y1, y2, y3, yf0, yf1, yf2, yf3⟩ := hst.get2.cel4
  have hstA := (((((hst.get3.setCel 0 (.slice a2 l.length c2)).get3.setCel 0 (.slice a2 l.length c2)).setCel 1 (.int .i64 a)).setCel 2 (.int .i64 b)).setCel 3 (.bool d))
  clear hst ho hb1
  go_wp2
  obtain ⟨z0, z1, z2, z3⟩ := hstA.at4 0 rfl
  exact bodyPost_ret (v := .agg #[.slice a2 l.length c2, .int .i64 a, .int .i64 b, .bool d]) (by simp [results, Try.results209, go_sem, z0, z1, z2, z3]) rfl ⟨_, rfl, hstA.get3.own, hstA.bel⟩


theorem alloc_keep' {w : World} {b o : Nat} {v : Value} (x : Obj) (h : w.cell? ⟨b, o, none⟩ = some v) : (w.alloc x).cell? ⟨b, o, none⟩ = some v := (World.cell?_alloc_lt _ _ _ (World.block_lt_of_cell? w _ h)).trans h

set_option maxRecDepth 100000 in
set_option maxHeartbeats 4000000 in
theorem clBegun_any {vs : Value} {td : List Cl.T} (t n seen ov : Int) (ap : Option Addr) (np cp : Nat) (dn : Bool) (w : World) {F : Nat → Prop} (hF : ∀ b, F b → b < w.heap.size) (h : (Enc.todo.sl 32).R F w [vs] td) :
    Calls Try.prog 210 #[.agg #[.int .i64 t, .int .i64 n, .slice ap np cp], .agg #[vs, .int .i64 seen, .int .i64 ov, .bool dn]] w fun e w' => ∃ W, e = .returned (.pointer (some ⟨W, 0, none⟩)) ∧ Cl.Wk w w' W t n (.slice ap np cp) td [] [] := by
  obtain ⟨ao, -, -, cap, rfl, hroom, -⟩ := slTodo h
  have hst := ((St.init w).alloc #[.int .i64 t, .int .i64 n, (.slice ap np cp)] 24).alloc #[.slice ao td.length cap, .int .i64 seen, .int .i64 ov, .bool dn] 225
  simp only [World.size_alloc] at hst
  have HCL := Lib.hid (fun (W : World) (hW : Below w.heap.size w W) => cloneTodo_any (l := td) (v := .slice ao td.length cap) W (fun b hb => Nat.lt_of_lt_of_le (hF b hb) hW.size) (Enc.mono _ h (fun _ h => h) (fun b hb => hW.block b (hF b hb))))
  clear h hF hroom
  have HST := Lib.hid hst.drew
  clear hst
  go_enter Try.func210, Try.ntmps210
  go_wp2
  obtain ⟨g0, g1, g2⟩ := HST.out.at3 1 rfl
  obtain ⟨s0, -, -, -⟩ := HST.out.at4 0 rfl
  go_region_held3 (fun w' => w'.cell? ⟨w.heap.size, 0, none⟩ = some (.int .i64 t) ∧ w'.cell? ⟨w.heap.size, 1, none⟩ = some (.int .i64 n) ∧ w'.cell? ⟨w.heap.size, 2, none⟩ = some (.slice ap np cp) ∧ w'.cell? ⟨w.heap.size + 1, 0, none⟩ = some (.slice ao td.length cap)) (first | exact ⟨g0, g1, g2, s0⟩ | exact ⟨alloc_keep' _ g0, alloc_keep' _ g1, alloc_keep' _ g2, alloc_keep' _ s0⟩)
    ((go_at_call 218; refine (HCL.out _ HST.out.bel).mono ?_; rintro e w1 ⟨v', rfl, ho, hb1⟩; obtain ⟨a2, c2, rfl⟩ := ho.isLen; have hst := HST.out.pushOwn hb1 ho; obtain ⟨g0, g1, g2⟩ := hst.at3 2 rfl; obtain ⟨s0, -, -, -⟩ := hst.at4 1 rfl))
  all_goals
    have hfin := (hst.alloc #[.int .i64 t, .int .i64 n, .slice ap np cp, .slice a2 td.length c2, .slice none 0 0, .int .i64 0] 325).nilOwn 76 2
    go_wp2
    go_ret
    rw [List.length_map] at hfin
    exact ⟨w1.heap.size, rfl, .slice a2 td.length c2, .slice none 0 0, hfin.get3.get3.get5.drop.get4.drop⟩
end Go.Proofs.Ytahoapgmiecphaa

/-
  Push and End of package climb: what they compute.
-/
namespace Go.Proofs.Ytahoapgmiecphaa
set_option linter.unusedVariables false
open Go.ChangeShapes Go.WideShapes Go.ChangeAt Go.RowKit

namespace Cl
/-- What a step tells: error, what is ahead (the next one last), how much was seen, what is over, the events. -/
structure R where
  err : Int
  st : List T
  seen : Int
  over : Int
  done : Bool
  out : List (Int × Int)
def fin (last : Bool) (x : Int × List T × List (Int × Int)) (seen : Int) : R :=
  if x.1 ≠ 0 then ⟨x.1, [], seen, x.1, false, []⟩ else if last = true then ⟨0, [], seen, 0, true, x.2.2⟩ else ⟨0, x.2.1.reverse, seen + 1, 0, false, x.2.2⟩
theorem fin_bad {last x seen} (h : x.1 ≠ 0) : fin last x seen = ⟨x.1, [], seen, x.1, false, []⟩ := by rw [fin, if_pos h]
theorem fin_end {x seen} (h : x.1 = 0) : fin true x seen = ⟨0, [], seen, 0, true, x.2.2⟩ := by rw [fin, if_neg (by omega), if_pos rfl]
theorem fin_go {x seen} (h : x.1 = 0) : fin false x seen = ⟨0, x.2.1.reverse, seen + 1, 0, false, x.2.2⟩ := by rw [fin, if_neg (by omega), if_neg (by simp)]
def tell (E : Int) (last : Bool) (x : Int × List T × List (Int × Int)) (st : List T) (seen ov : Int) (dn : Bool) : R := if E ≠ 0 then ⟨E, st, seen, ov, dn, []⟩ else fin last x seen
theorem tell_bad {E last x st seen ov dn} (h : E ≠ 0) : tell E last x st seen ov dn = ⟨E, st, seen, ov, dn, []⟩ := by rw [tell, if_pos h]
theorem tell_ok {last x st seen ov dn} : tell 0 last x st seen ov dn = fin last x seen := by rw [tell, if_neg (by simp)]
def Ret (r : R) (w : World) (e : Ending) (w' : World) : Prop := ∃ vs ve, e = .returned (.tuple #[.agg #[vs, .int .i64 r.seen, .int .i64 r.over, .bool r.done], ve, .int .i64 r.err]) ∧ St w w' [aOwn 238 4 vs (r.st.map todoV), aOwn 76 2 ve (r.out.map pairV)]
section
variable {ps : List (Int × List (Int × Int))} {rows : List (List Int)} {c : Nat} {seen : Int} {a : List T} {e : Int} {ah : List T} {o : List (Int × Int)} {x : T} {r : List T}
theorem push_err (h : dn ps rows c 2001 a [] = (e, ah, o)) (he : e ≠ 0) : push ps rows c seen a = (e, [], []) := by rw [push, h, if_pos he]
theorem push_none (h : dn ps rows c 2001 a [] = (0, [], o)) : push ps rows c seen a = (13, [], []) := by rw [push, h, if_neg (by simp)]; rfl
theorem push_other (h : dn ps rows c 2001 a [] = (0, x :: r, o)) (hx : x.2.2.2 ≠ c) : push ps rows c seen a = (13, [], []) := by rw [push, h, if_neg (by simp)]; simp only [tok]; rw [if_pos hx]
theorem push_many (h : dn ps rows c 2001 a [] = (0, x :: r, o)) (hx : x.2.2.2 = c) (hl : 2000 ≤ o.length) : push ps rows c seen a = (14, [], []) := by rw [push, h, if_neg (by simp)]; simp only [tok]; rw [if_neg (by omega), if_pos hl]
theorem push_clono (h : dn ps rows c 2001 a [] = (0, x :: r, o)) (hx : x.2.2.2 = c) (hl : o.length < 2000) (hq : clo r (o ++ [(2, seen)]) = none) : push ps rows c seen a = (14, [], []) := by rw [push, h, if_neg (by simp)]; simp only [tok]; rw [if_neg (by omega), if_neg (by omega), hq]
theorem push_clo {y1 : List T} {y2 : List (Int × Int)} (h : dn ps rows c 2001 a [] = (0, x :: r, o)) (hx : x.2.2.2 = c) (hl : o.length < 2000) (hq : clo r (o ++ [(2, seen)]) = some (y1, y2)) : push ps rows c seen a = (0, y1, y2) := by rw [push, h, if_neg (by simp)]; simp only [tok]; rw [if_neg (by omega), if_neg (by omega), hq]
theorem end_err (h : dn ps rows c 2001 a [] = (e, ah, o)) (he : e ≠ 0) : ending ps rows c a = (e, [], []) := by rw [ending, h, if_pos he]
theorem end_more (h : dn ps rows c 2001 a [] = (0, x :: r, o)) : ending ps rows c a = (13, [], []) := by rw [ending, h, if_neg (by simp), if_pos (by simp)]
theorem end_done (h : dn ps rows c 2001 a [] = (0, [], o)) : ending ps rows c a = (0, [], o) := by rw [ending, h, if_neg (by simp), if_neg (by simp)]
end
end Cl

set_option maxRecDepth 100000 in
set_option maxHeartbeats 8000000 in
theorem clPush_bad (t n seen ov term col : Int) (dn : Bool) (vp vr vs : Value) (l : List (Int × List (Int × Int))) (rows : List (List Int)) (td : List Cl.T) (w : World) (F : Nat → Prop) (hF : ∀ b, F b → b < w.heap.size) (h : Enc.prods.R F w [vp] l)
    (hr : (((Enc.int .i64).sl 8).sl 24).R F w [vr] rows) (hs : (Enc.todo.sl 32).R F w [vs] td) (E : Int) (hc : (term = t ∧ col = -1) ∨ (term ≠ t ∧ term = col)) (hE : Cl.chk (Rw.all t n l rows) t (Cl.fits t n l.length td seen) (decide (ov ≠ 0) || dn) col = E) (hne : E ≠ 0) :
    Calls Try.prog 207 #[.agg #[.int .i64 t, .int .i64 n, vp], vr, .agg #[vs, .int .i64 seen, .int .i64 ov, .bool dn], .int .i64 term] w (Cl.Ret ⟨E, td, seen, ov, dn, []⟩ w) := by
  have hst := ((((St.init w).alloc #[.int .i64 t, .int .i64 n, vp] 24).alloc #[vs, .int .i64 seen, .int .i64 ov, .bool dn] 225).alloc #[.slice none 0 0, .int .i64 0, .int .i64 0, .bool false] 225)
  simp only [World.size_alloc] at hst
  have HC := fun (W : World) (hW : Below w.heap.size w W) => clCheck_any t n seen ov col dn vp vr vs l rows td W F (fun b hb => Nat.lt_of_lt_of_le (hF b hb) hW.size) (Enc.mono _ h (fun _ h => h) (fun b hb => hW.block b (hF b hb))) (Enc.mono _ hr (fun _ h => h) (fun b hb => hW.block b (hF b hb))) (Enc.mono _ hs (fun _ h => h) (fun b hb => hW.block b (hF b hb)))
  rw [hE] at HC
  replace HC := Lib.hid HC
  have HS := Lib.hid (fun (W : World) (hW : Below w.heap.size w W) => clSame_any seen ov dn W (F := F) (fun b hb => Nat.lt_of_lt_of_le (hF b hb) hW.size) (Enc.mono _ hs (fun _ h => h) (fun b hb => hW.block b (hF b hb))))
  have hneb : (E != 0) = true := by rw [bne_iff_ne]; exact hne
  clear h hr hs hF hE hne
  rcases hc with ⟨rfl, rfl⟩ | ⟨hq, rfl⟩
  · go_enter Try.func207, Try.ntmps207
    go_wp2_with (fail)
    go_at_call 208
    refine (HC.out _ hst.bel).mono ?_
    rintro e w1 ⟨rfl, hb1⟩
    replace hst := hst.call hb1
    clear hb1
    obtain ⟨x0, x1, x2, x3⟩ := hst.at4 1 rfl
    go_wp2_with (fail)
    go_at_call 209
    refine (HS.out _ hst.bel).mono ?_
    rintro e w2 ⟨v', rfl, ho, hb2⟩
    obtain ⟨a2, c2, rfl⟩ := ho.isLen
    rw [List.length_map] at ho ⊢
    replace hst := hst.pushOwn hb2 ho
    clear hb2 ho x0 x1 x2 x3
    obtain ⟨x0, x1, x2, x3, xf0, xf1, xf2, xf3⟩ := hst.get2.cel4
    have hstA := ((((hst.get2.setCel 0 (.slice a2 td.length c2)).setCel 1 (.int .i64 seen)).setCel 2 (.int .i64 ov)).setCel 3 (.bool dn))
    clear hst
    go_wp2
    obtain ⟨z0, z1, z2, z3⟩ := hstA.at4 0 rfl
    have hfin := ((hstA.nth 1 rfl).nilOwn 76 2).get2
    refine bodyPost_ret (v := .tuple #[.agg #[.slice a2 td.length c2, .int .i64 seen, .int .i64 ov, .bool dn], .slice none 0 0, .int .i64 E]) ?_ rfl ?_
    · simp [results, Try.results207, go_sem, z0, z1, z2, z3]
    · exact ⟨_, _, rfl, hfin⟩
  · have hqb : (term == t) = false := by rw [beq_eq_false_iff_ne]; exact hq
    clear hq
    go_enter Try.func207, Try.ntmps207
    go_wp2_with (fail)
    go_at_call 208
    refine (HC.out _ hst.bel).mono ?_
    rintro e w1 ⟨rfl, hb1⟩
    replace hst := hst.call hb1
    clear hb1
    obtain ⟨x0, x1, x2, x3⟩ := hst.at4 1 rfl
    go_wp2_with (fail)
    go_at_call 209
    refine (HS.out _ hst.bel).mono ?_
    rintro e w2 ⟨v', rfl, ho, hb2⟩
    obtain ⟨a2, c2, rfl⟩ := ho.isLen
    rw [List.length_map] at ho ⊢
    replace hst := hst.pushOwn hb2 ho
    clear hb2 ho x0 x1 x2 x3
    obtain ⟨x0, x1, x2, x3, xf0, xf1, xf2, xf3⟩ := hst.get2.cel4
    have hstA := ((((hst.get2.setCel 0 (.slice a2 td.length c2)).setCel 1 (.int .i64 seen)).setCel 2 (.int .i64 ov)).setCel 3 (.bool dn))
    clear hst
    go_wp2
    obtain ⟨z0, z1, z2, z3⟩ := hstA.at4 0 rfl
    have hfin := ((hstA.nth 1 rfl).nilOwn 76 2).get2
    refine bodyPost_ret (v := .tuple #[.agg #[.slice a2 td.length c2, .int .i64 seen, .int .i64 ov, .bool dn], .slice none 0 0, .int .i64 E]) ?_ rfl ?_
    · simp [results, Try.results207, go_sem, z0, z1, z2, z3]
    · exact ⟨_, _, rfl, hfin⟩

set_option maxRecDepth 100000 in
set_option maxHeartbeats 8000000 in
theorem clEnd_bad (t n seen ov : Int) (dn : Bool) (vp vr vs : Value) (l : List (Int × List (Int × Int))) (rows : List (List Int)) (td : List Cl.T) (w : World) (F : Nat → Prop) (hF : ∀ b, F b → b < w.heap.size) (h : Enc.prods.R F w [vp] l)
    (hr : (((Enc.int .i64).sl 8).sl 24).R F w [vr] rows) (hs : (Enc.todo.sl 32).R F w [vs] td) (E : Int) (hE : Cl.chk (Rw.all t n l rows) t (Cl.fits t n l.length td seen) (decide (ov ≠ 0) || dn) t = E) (hne : E ≠ 0) :
    Calls Try.prog 206 #[.agg #[.int .i64 t, .int .i64 n, vp], vr, .agg #[vs, .int .i64 seen, .int .i64 ov, .bool dn]] w (Cl.Ret ⟨E, td, seen, ov, dn, []⟩ w) := by
  have hst := ((((St.init w).alloc #[.int .i64 t, .int .i64 n, vp] 24).alloc #[vs, .int .i64 seen, .int .i64 ov, .bool dn] 225).alloc #[.slice none 0 0, .int .i64 0, .int .i64 0, .bool false] 225)
  simp only [World.size_alloc] at hst
  have HC := fun (W : World) (hW : Below w.heap.size w W) => clCheck_any t n seen ov t dn vp vr vs l rows td W F (fun b hb => Nat.lt_of_lt_of_le (hF b hb) hW.size) (Enc.mono _ h (fun _ h => h) (fun b hb => hW.block b (hF b hb))) (Enc.mono _ hr (fun _ h => h) (fun b hb => hW.block b (hF b hb))) (Enc.mono _ hs (fun _ h => h) (fun b hb => hW.block b (hF b hb)))
  rw [hE] at HC
  replace HC := Lib.hid HC
  have HS := Lib.hid (fun (W : World) (hW : Below w.heap.size w W) => clSame_any seen ov dn W (F := F) (fun b hb => Nat.lt_of_lt_of_le (hF b hb) hW.size) (Enc.mono _ hs (fun _ h => h) (fun b hb => hW.block b (hF b hb))))
  have hneb : (E != 0) = true := by rw [bne_iff_ne]; exact hne
  clear h hr hs hF hE hne
  go_enter Try.func206, Try.ntmps206
  go_wp2_with (fail)
  go_at_call 208
  refine (HC.out _ hst.bel).mono ?_
  rintro e w1 ⟨rfl, hb1⟩
  replace hst := hst.call hb1
  clear hb1
  obtain ⟨x0, x1, x2, x3⟩ := hst.at4 1 rfl
  go_wp2_with (fail)
  go_at_call 209
  refine (HS.out _ hst.bel).mono ?_
  rintro e w2 ⟨v', rfl, ho, hb2⟩
  obtain ⟨a2, c2, rfl⟩ := ho.isLen
  rw [List.length_map] at ho ⊢
  replace hst := hst.pushOwn hb2 ho
  clear hb2 ho x0 x1 x2 x3
  obtain ⟨x0, x1, x2, x3, xf0, xf1, xf2, xf3⟩ := hst.get2.cel4
  have hstA := ((((hst.get2.setCel 0 (.slice a2 td.length c2)).setCel 1 (.int .i64 seen)).setCel 2 (.int .i64 ov)).setCel 3 (.bool dn))
  clear hst
  go_wp2
  obtain ⟨z0, z1, z2, z3⟩ := hstA.at4 0 rfl
  have hfin := ((hstA.nth 1 rfl).nilOwn 76 2).get2
  refine bodyPost_ret (v := .tuple #[.agg #[.slice a2 td.length c2, .int .i64 seen, .int .i64 ov, .bool dn], .slice none 0 0, .int .i64 E]) ?_ rfl ?_
  · simp [results, Try.results206, go_sem, z0, z1, z2, z3]
  · exact ⟨_, _, rfl, hfin⟩

set_option maxRecDepth 100000 in
set_option maxHeartbeats 8000000 in
theorem clPush_ok (t n seen ov : Int) (c : Nat) (dn : Bool) (vp vr vs : Value) (l : List (Int × List (Int × Int))) (rows : List (List Int)) (td : List Cl.T) (w : World) (F : Nat → Prop) (hF : ∀ b, F b → b < w.heap.size) (h : Enc.prods.R F w [vp] l)
    (hr : (((Enc.int .i64).sl 8).sl 24).R F w [vr] rows) (hs : (Enc.todo.sl 32).R F w [vs] td) (hc : (c : Int) < t) (hE : Cl.chk (Rw.all t n l rows) t (Cl.fits t n l.length td seen) (decide (ov ≠ 0) || dn) c = 0) :
    Calls Try.prog 207 #[.agg #[.int .i64 t, .int .i64 n, vp], vr, .agg #[vs, .int .i64 seen, .int .i64 ov, .bool dn], .int .i64 c] w (Cl.Ret (Cl.fin false (Cl.push l rows c seen td.reverse) seen) w) := by
  have hst := ((((St.init w).alloc #[.int .i64 t, .int .i64 n, vp] 24).alloc #[vs, .int .i64 seen, .int .i64 ov, .bool dn] 225).alloc #[.slice none 0 0, .int .i64 0, .int .i64 0, .bool false] 225)
  simp only [World.size_alloc] at hst
  have HC := fun (W : World) (hW : Below w.heap.size w W) => clCheck_any t n seen ov c dn vp vr vs l rows td W F (fun b hb => Nat.lt_of_lt_of_le (hF b hb) hW.size) (Enc.mono _ h (fun _ h => h) (fun b hb => hW.block b (hF b hb))) (Enc.mono _ hr (fun _ h => h) (fun b hb => hW.block b (hF b hb))) (Enc.mono _ hs (fun _ h => h) (fun b hb => hW.block b (hF b hb)))
  rw [hE] at HC
  replace HC := Lib.hid HC
  obtain ⟨he, -, hfit, -, -⟩ := Cl.chk_zero hE
  obtain ⟨h60, hs0, hs1, hany⟩ := Cl.fits_iff.1 hfit
  have hgood : ∀ x ∈ td, Cl.good t n l.length x = true := fun x hx => by
    have := List.any_eq_false.1 hany x hx
    simpa using this
  obtain ⟨ap, -, -, cp, hvp, -⟩ := slProds h
  have HB := Lib.hid (fun (W : World) (hW : Below w.heap.size w W) => clBegun_any (vs := vs) (td := td) t n seen ov ap l.length cp dn W (F := F) (fun b hb => Nat.lt_of_lt_of_le (hF b hb) hW.size) (Enc.mono _ hs (fun _ h => h) (fun b hb => hW.block b (hF b hb))))
  have HD := Lib.hid (fun (W1 w' : World) (W : Nat) (hW : Below w.heap.size w W1) (hk : Cl.Wk W1 w' W t n vp td [] []) => clDown_any W1 W t n vp vr l rows c td [] [] w' F (Enc.mono _ h (fun _ h => h) (fun b hb => hW.block b (hF b hb))) (Enc.mono _ hr (fun _ h => h) (fun b hb => hW.block b (hF b hb))) he (by omega) hk h60 rfl hgood)
  have HFIT := Lib.hid h60
  clear h hr hs hF hE hany hfit hgood he
  subst hvp
  obtain ⟨⟨eD, aD, oD⟩, hD⟩ : ∃ D, Cl.dn l rows c 2001 td.reverse [] = D := ⟨_, rfl⟩
  rw [hD] at HD
  have HDN := Lib.hid hD
  clear hD
  have hqb : ((c : Int) == t) = false := by rw [beq_eq_false_iff_ne]; omega
  by_cases he : eD ≠ 0
  · rw [Cl.push_err HDN.out he, Cl.fin_bad he]
    have hz1 : (eD != 0) = true := by rw [bne_iff_ne]; exact he
    have hz2 : (eD == 0) = false := by rw [beq_eq_false_iff_ne]; exact he
    clear he
    go_enter Try.func207, Try.ntmps207
    go_wp2_with (fail)
    go_at_call 208
    refine (HC.out _ hst.bel).mono ?_
    rintro e w1 ⟨rfl, hb1⟩
    replace hst := hst.call hb1
    clear hb1
    obtain ⟨g0, g1, g2⟩ := hst.at3 2 rfl
    obtain ⟨x0, x1, x2, x3⟩ := hst.at4 1 rfl
    go_wp2_with (fail)
    go_at_call 210
    refine (HB.out _ hst.bel).mono ?_
    rintro e w2 ⟨W, rfl, H1⟩
    have g0 := bkeep H1.bel g0
    go_wp2_with (fail)
    go_at_call 211
    refine (HD.out _ _ _ hst.bel H1).mono ?_
    rintro e w3 ⟨rfl, td3, out3, H2, hx⟩
    simp only at hx
    have HST := Lib.hid hst
    clear H1 hst g0 g1 g2 x0 x1 x2 x3
    obtain ⟨vt, vo, hstW⟩ := H2
    replace hst := HST.out.joined hstW
    clear hstW
    go_wp2
    go_region
    have hst := hst.drew
    generalize w3.drew = w4 at *
    obtain ⟨x0, x1, x2, x3⟩ := hst.at4 4 rfl
    obtain ⟨y0, y1, y2, y3, yf0, yf1, yf2, yf3⟩ := hst.get4.cel4
    have hstA := ((((hst.get4.setCel 0 (.slice none 0 0)).setCel 1 (.int .i64 seen)).setCel 2 (.int .i64 eD)).setCel 3 (.bool false))
    clear hst
    go_wp2
    obtain ⟨z0, z1, z2, z3⟩ := hstA.at4 0 rfl
    refine bodyPost_ret (v := .tuple #[.agg #[.slice none 0 0, .int .i64 seen, .int .i64 eD, .bool false], .slice none 0 0, .int .i64 eD]) ?_ rfl ?_
    · simp [results, Try.results207, go_sem, z0, z1, z2, z3]
    · exact ⟨_, _, rfl, ((St.ofBel hstA.bel).nilOwn _ _).nilOwn _ _⟩
  obtain rfl : eD = 0 := by omega
  clear he
  rcases aD with _ | ⟨x, r⟩
  · rw [Cl.push_none HDN.out, Cl.fin_bad (by simp)]
    go_enter Try.func207, Try.ntmps207
    go_wp2_with (fail)
    go_at_call 208
    refine (HC.out _ hst.bel).mono ?_
    rintro e w1 ⟨rfl, hb1⟩
    replace hst := hst.call hb1
    clear hb1
    obtain ⟨g0, g1, g2⟩ := hst.at3 2 rfl
    obtain ⟨x0, x1, x2, x3⟩ := hst.at4 1 rfl
    go_wp2_with (fail)
    go_at_call 210
    refine (HB.out _ hst.bel).mono ?_
    rintro e w2 ⟨W, rfl, H1⟩
    have g0 := bkeep H1.bel g0
    go_wp2_with (fail)
    go_at_call 211
    refine (HD.out _ _ _ hst.bel H1).mono ?_
    rintro e w3 ⟨rfl, td3, out3, H2, hx⟩
    simp only at hx
    have HST := Lib.hid hst
    clear H1 hst g0 g1 g2 x0 x1 x2 x3
    obtain ⟨rfl, rfl, h5, h6, h7⟩ := hx trivial
    clear hx
    obtain ⟨vt, vo, hstW⟩ := H2
    rcases hstW.get2.own.shape with ⟨rfl, _⟩ | ⟨ga, ca, rfl, _, _⟩
    all_goals
      replace hst := HST.out.joined hstW
      have w3c := (hst.nth 0 rfl).celAt (i := 3) rfl
      clear hstW
      go_wp2
      go_region
      have hst := hst.drew
      generalize w3.drew = w4 at *
      obtain ⟨x0, x1, x2, x3⟩ := hst.at4 4 rfl
      obtain ⟨y0, y1, y2, y3, yf0, yf1, yf2, yf3⟩ := hst.get4.cel4
      have hstA := ((((hst.get4.setCel 0 (.slice none 0 0)).setCel 1 (.int .i64 seen)).setCel 2 (.int .i64 13)).setCel 3 (.bool false))
      clear hst
      go_wp2
      obtain ⟨z0, z1, z2, z3⟩ := hstA.at4 0 rfl
      refine bodyPost_ret (v := .tuple #[.agg #[.slice none 0 0, .int .i64 seen, .int .i64 13, .bool false], .slice none 0 0, .int .i64 13]) ?_ rfl ?_
      · simp [results, Try.results207, go_sem, z0, z1, z2, z3]
      · exact ⟨_, _, rfl, ((St.ofBel hstA.bel).nilOwn _ _).nilOwn _ _⟩
  obtain ⟨ys, rfl⟩ : ∃ ys : List Cl.T, r = ys.reverse := ⟨r.reverse, by simp⟩
  by_cases hN : x.2.2.2 ≠ c
  · rw [Cl.push_other HDN.out hN, Cl.fin_bad (by simp)]
    have hNb : (x.2.2.2 != (c : Int)) = true := by rw [bne_iff_ne]; exact hN
    clear hN
    go_enter Try.func207, Try.ntmps207
    go_wp2_with (fail)
    go_at_call 208
    refine (HC.out _ hst.bel).mono ?_
    rintro e w1 ⟨rfl, hb1⟩
    replace hst := hst.call hb1
    clear hb1
    obtain ⟨g0, g1, g2⟩ := hst.at3 2 rfl
    obtain ⟨x0, x1, x2, x3⟩ := hst.at4 1 rfl
    go_wp2_with (fail)
    go_at_call 210
    refine (HB.out _ hst.bel).mono ?_
    rintro e w2 ⟨W, rfl, H1⟩
    have g0 := bkeep H1.bel g0
    go_wp2_with (fail)
    go_at_call 211
    refine (HD.out _ _ _ hst.bel H1).mono ?_
    rintro e w3 ⟨rfl, td3, out3, H2, hx⟩
    simp only at hx
    have HST := Lib.hid hst
    clear H1 hst g0 g1 g2 x0 x1 x2 x3
    obtain ⟨rfl, rfl, h5, h6, h7⟩ := hx trivial
    clear hx
    rw [List.reverse_cons, List.reverse_reverse] at H2
    rw [List.reverse_cons, List.reverse_reverse, List.length_append, List.length_singleton] at h5
    have HW := Lib.hid H2
    obtain ⟨vt, vo, hstW⟩ := H2
    rcases hstW.get2.own.shape with ⟨_, he⟩ | ⟨ga, ca, rfl, hga, hgb⟩
    · simp at he
    rw [List.length_map, List.length_append, List.length_singleton] at hstW
    have c3 := (hstW.nth 0 rfl).celAt (i := 3) rfl
    obtain ⟨-, -, -, d3⟩ := hstW.get2.cellTodo ys.length (by simp)
    rw [Cl.snoc_get] at d3
    have hl1 : (((ys.length : Int) + 1) == 0) = false := by rw [beq_eq_false_iff_ne]; omega
    have hl2 : IntKind.i64.wrap (ys.length : Int) = (ys.length : Int) := IntWalk.i64_in _ (by omega)
    have hl3 : (0 : Int) ≤ (ys.length : Int) := by omega
    clear hga hgb
    replace hst := HST.out.joined hstW
    clear hstW HW
    go_wp2
    go_region
    have hst := hst.drew
    generalize w3.drew = w4 at *
    clear hl1 hl2 hl3 c3 d3
    obtain ⟨x0, x1, x2, x3⟩ := hst.at4 4 rfl
    obtain ⟨y0, y1, y2, y3, yf0, yf1, yf2, yf3⟩ := hst.get4.cel4
    have hstA := ((((hst.get4.setCel 0 (.slice none 0 0)).setCel 1 (.int .i64 seen)).setCel 2 (.int .i64 13)).setCel 3 (.bool false))
    clear hst
    go_wp2
    obtain ⟨z0, z1, z2, z3⟩ := hstA.at4 0 rfl
    refine bodyPost_ret (v := .tuple #[.agg #[.slice none 0 0, .int .i64 seen, .int .i64 13, .bool false], .slice none 0 0, .int .i64 13]) ?_ rfl ?_
    · simp [results, Try.results207, go_sem, z0, z1, z2, z3]
    · exact ⟨_, _, rfl, ((St.ofBel hstA.bel).nilOwn _ _).nilOwn _ _⟩
  have hN' : x.2.2.2 = c := by omega
  have hNb : (x.2.2.2 != (c : Int)) = false := by rw [bne_eq_false_iff_eq]; exact hN'
  clear hN
  have HN := Lib.hid hN'
  clear hN'
  obtain ⟨X, hX⟩ : ∃ X, Cl.push l rows c seen td.reverse = X := ⟨_, rfl⟩
  rw [hX]
  have HX := Lib.hid hX
  clear hX
  go_enter Try.func207, Try.ntmps207
  go_wp2_with (fail)
  go_at_call 208
  refine (HC.out _ hst.bel).mono ?_
  rintro e w1 ⟨rfl, hb1⟩
  replace hst := hst.call hb1
  clear hb1
  obtain ⟨g0, g1, g2⟩ := hst.at3 2 rfl
  obtain ⟨x0, x1, x2, x3⟩ := hst.at4 1 rfl
  go_wp2_with (fail)
  go_at_call 210
  refine (HB.out _ hst.bel).mono ?_
  rintro e w2 ⟨W, rfl, H1⟩
  have g0 := bkeep H1.bel g0
  go_wp2_with (fail)
  go_at_call 211
  refine (HD.out _ _ _ hst.bel H1).mono ?_
  rintro e w3 ⟨rfl, td3, out3, H2, hx⟩
  simp only at hx
  have HST := Lib.hid hst
  clear H1 hst g0 g1 g2 x0 x1 x2 x3
  obtain ⟨rfl, rfl, h5, h6, h7⟩ := hx trivial
  clear hx
  rw [List.reverse_cons, List.reverse_reverse] at H2
  rw [List.reverse_cons, List.reverse_reverse, List.length_append, List.length_singleton] at h5
  have HW := Lib.hid H2
  obtain ⟨vt, vo, hstW⟩ := H2
  rcases hstW.get2.own.shape with ⟨_, he⟩ | ⟨ga, ca, rfl, hga, hgb⟩
  · simp at he
  rw [List.length_map, List.length_append, List.length_singleton] at hstW
  have c3 := (hstW.nth 0 rfl).celAt (i := 3) rfl
  obtain ⟨-, -, -, d3⟩ := hstW.get2.cellTodo ys.length (by simp)
  rw [Cl.snoc_get] at d3
  have hl1 : (((ys.length : Int) + 1) == 0) = false := by rw [beq_eq_false_iff_ne]; omega
  have hl2 : IntKind.i64.wrap (ys.length : Int) = (ys.length : Int) := IntWalk.i64_in _ (by omega)
  have hl3 : (0 : Int) ≤ (ys.length : Int) := by omega
  clear hga hgb
  clear hstW
  go_wp2
  go_region
  clear hl1 hl2 hl3 c3 d3
  have H4 := Lib.hid HW.out.drew
  clear HW
  generalize w3.drew = w4 at *
  go_wp2_with (fail)
  go_at_call 212
  refine (clPop_any w1 W t n _ ys x out3 [] _ H4.out (by omega)).mono ?_
  rintro e w5 ⟨rfl, H5⟩
  replace H5 := Lib.hid H5
  have x1 := bkeep H5.out.bel (HST.out.at4 1 rfl).2.1
  by_cases h20 : 2000 ≤ out3.length
  · rw [Cl.push_many HDN.out HN.out h20] at HX
    obtain rfl := HX.out
    rw [Cl.fin_bad (by simp)]
    have hd : decide (out3.length < 2000) = false := decide_eq_false (by omega)
    go_wp2_with (fail)
    go_at_call 213
    refine (clAct_any w1 W t n _ ys out3 [] 2 seen _ H5.out (by omega)).mono ?_
    rw [hd]
    rintro e w6 ⟨rfl, H6⟩
    clear hd x1
    obtain ⟨vt2, vo2, hstW⟩ := H6
    replace hst := HST.out.joined hstW
    clear hstW
    obtain ⟨x0, x1, x2, x3⟩ := hst.at4 4 rfl
    obtain ⟨y0, y1, y2, y3, yf0, yf1, yf2, yf3⟩ := hst.get4.cel4
    have hstA := ((((hst.get4.setCel 0 (.slice none 0 0)).setCel 1 (.int .i64 seen)).setCel 2 (.int .i64 14)).setCel 3 (.bool false))
    clear hst
    go_wp2
    obtain ⟨z0, z1, z2, z3⟩ := hstA.at4 0 rfl
    refine bodyPost_ret (v := .tuple #[.agg #[.slice none 0 0, .int .i64 seen, .int .i64 14, .bool false], .slice none 0 0, .int .i64 14]) ?_ rfl ?_
    · simp [results, Try.results207, go_sem, z0, z1, z2, z3]
    · exact ⟨_, _, rfl, ((St.ofBel hstA.bel).nilOwn _ _).nilOwn _ _⟩
  have HX2 := HX
  clear HX
  have hd : decide (out3.length < 2000) = true := decide_eq_true (by omega)
  go_wp2_with (fail)
  go_at_call 213
  refine (clAct_any w1 W t n _ ys out3 [] 2 seen _ H5.out (by omega)).mono ?_
  rw [hd]
  rintro e w6 ⟨rfl, H6⟩
  clear hd x1
  obtain ⟨Y, hY⟩ : ∃ Y, Cl.clo ys.reverse (out3 ++ [(2, seen)]) = Y := ⟨_, rfl⟩
  have hcon := clCloses_any w1 W t n _ ys (out3 ++ [(2, seen)]) [] w6 H6 (by omega) (by rw [List.length_append, List.length_singleton]; omega)
  rw [hY] at hcon
  have HC := Lib.hid hcon
  clear hcon H6
  rcases Y with _ | ⟨y1, y2⟩
  · have hX := HX2.out
    rw [Cl.push_clono HDN.out HN.out (by omega) hY] at hX
    subst hX
    rw [Cl.fin_bad (by simp)]
    clear hY HX2
    go_wp2_with (fail)
    go_at_call 214
    refine HC.out.mono ?_
    rintro e w7 ⟨he, td7, out7, H7, -⟩
    replace he : e = .returned (.bool false) := he
    subst he
    obtain ⟨vt2, vo2, hstW⟩ := H7
    replace hst := HST.out.joined hstW
    clear hstW
    obtain ⟨x0, x1, x2, x3⟩ := hst.at4 4 rfl
    obtain ⟨y0, y1, y2, y3, yf0, yf1, yf2, yf3⟩ := hst.get4.cel4
    have hstA := ((((hst.get4.setCel 0 (.slice none 0 0)).setCel 1 (.int .i64 seen)).setCel 2 (.int .i64 14)).setCel 3 (.bool false))
    clear hst
    go_wp2
    obtain ⟨z0, z1, z2, z3⟩ := hstA.at4 0 rfl
    refine bodyPost_ret (v := .tuple #[.agg #[.slice none 0 0, .int .i64 seen, .int .i64 14, .bool false], .slice none 0 0, .int .i64 14]) ?_ rfl ?_
    · simp [results, Try.results207, go_sem, z0, z1, z2, z3]
    · exact ⟨_, _, rfl, ((St.ofBel hstA.bel).nilOwn _ _).nilOwn _ _⟩
  · have hX := HX2.out
    rw [Cl.push_clo HDN.out HN.out (by omega) hY] at hX
    subst hX
    rw [Cl.fin_go rfl]
    clear hY HX2
    go_wp2_with (fail)
    go_at_call 214
    refine HC.out.mono ?_
    rintro e w7 ⟨he, td7, out7, H7, hq⟩
    replace he : e = .returned (.bool true) := he
    subst he
    obtain ⟨rfl, rfl⟩ := hq _ rfl
    clear hq
    obtain ⟨vt2, vo2, hstW⟩ := H7
    obtain ⟨at2, ct2, rfl⟩ := hstW.get2.own.isLen
    obtain ⟨ao2, co2, rfl⟩ := hstW.get3.own.isLen
    simp only [List.length_map, List.length_reverse] at hstW
    replace hst := HST.out.joined hstW
    clear hstW
    have q3 := (hst.nth 0 rfl).celAt (i := 3) rfl
    have q4 := (hst.nth 0 rfl).celAt (i := 4) rfl
    obtain ⟨x0, x1, x2, x3⟩ := hst.at4 4 rfl
    obtain ⟨y0, y1', y2', y3, yf0, yf1, yf2, yf3⟩ := hst.get4.cel4
    have lW := World.block_lt_of_cell? _ _ q3
    have lX := World.block_lt_of_cell? _ _ x1
    go_wp2
    go_region
    have hstA := (((((hst.get4.setCel 0 (.slice at2 y1.length ct2)).setCel 1 (.int .i64 (seen + 1))).setCel 2 (.int .i64 0)).setCel 3 (.bool false))).drew
    clear hst
    obtain ⟨z0, z1, z2, z3⟩ := hstA.at4 0 rfl
    clear x0 x1 x2 x3 y0 y1' y2' y3 yf0 yf1 yf2 yf3 q3 q4 lW lX
    generalize ((((w7.setCell ⟨w.heap.size + 1 + 1, 0, none⟩ (.slice at2 y1.length ct2)).setCell ⟨w.heap.size + 1 + 1, 1, none⟩ (.int .i64 (seen + 1))).setCell ⟨w.heap.size + 1 + 1, 2, none⟩ (.int .i64 0)).setCell ⟨w.heap.size + 1 + 1, 3, none⟩ (.bool false)).drew = w8 at *
    go_wp2
    refine bodyPost_ret (v := .tuple #[.agg #[.slice at2 y1.length ct2, .int .i64 (seen + 1), .int .i64 0, .bool false], .slice ao2 out7.length co2, .int .i64 0]) ?_ rfl ?_
    · simp [results, Try.results207, go_sem, z0, z1, z2, z3]
    · exact ⟨.slice at2 y1.length ct2, _, rfl, hstA.drop.drop.two⟩

set_option maxRecDepth 100000 in
set_option maxHeartbeats 8000000 in
theorem clEnd_ok (t n seen ov : Int) (c : Nat) (dn : Bool) (vp vr vs : Value) (l : List (Int × List (Int × Int))) (rows : List (List Int)) (td : List Cl.T) (w : World) (F : Nat → Prop) (hF : ∀ b, F b → b < w.heap.size) (h : Enc.prods.R F w [vp] l)
    (hr : (((Enc.int .i64).sl 8).sl 24).R F w [vr] rows) (hs : (Enc.todo.sl 32).R F w [vs] td) (hc : t = (c : Int)) (hE : Cl.chk (Rw.all t n l rows) t (Cl.fits t n l.length td seen) (decide (ov ≠ 0) || dn) c = 0) :
    Calls Try.prog 206 #[.agg #[.int .i64 t, .int .i64 n, vp], vr, .agg #[vs, .int .i64 seen, .int .i64 ov, .bool dn]] w (Cl.Ret (Cl.fin true (Cl.ending l rows c td.reverse) seen) w) := by
  subst hc
  have hst := ((((St.init w).alloc #[.int .i64 (c : Int), .int .i64 n, vp] 24).alloc #[vs, .int .i64 seen, .int .i64 ov, .bool dn] 225).alloc #[.slice none 0 0, .int .i64 0, .int .i64 0, .bool false] 225)
  simp only [World.size_alloc] at hst
  have HC := fun (W : World) (hW : Below w.heap.size w W) => clCheck_any c n seen ov c dn vp vr vs l rows td W F (fun b hb => Nat.lt_of_lt_of_le (hF b hb) hW.size) (Enc.mono _ h (fun _ h => h) (fun b hb => hW.block b (hF b hb))) (Enc.mono _ hr (fun _ h => h) (fun b hb => hW.block b (hF b hb))) (Enc.mono _ hs (fun _ h => h) (fun b hb => hW.block b (hF b hb)))
  rw [hE] at HC
  replace HC := Lib.hid HC
  obtain ⟨he, -, hfit, -, -⟩ := Cl.chk_zero hE
  obtain ⟨h60, hs0, hs1, hany⟩ := Cl.fits_iff.1 hfit
  have hgood : ∀ x ∈ td, Cl.good c n l.length x = true := fun x hx => by
    have := List.any_eq_false.1 hany x hx
    simpa using this
  obtain ⟨ap, -, -, cp, hvp, -⟩ := slProds h
  have HB := Lib.hid (fun (W : World) (hW : Below w.heap.size w W) => clBegun_any (vs := vs) (td := td) c n seen ov ap l.length cp dn W (F := F) (fun b hb => Nat.lt_of_lt_of_le (hF b hb) hW.size) (Enc.mono _ hs (fun _ h => h) (fun b hb => hW.block b (hF b hb))))
  have HD := Lib.hid (fun (W1 w' : World) (W : Nat) (hW : Below w.heap.size w W1) (hk : Cl.Wk W1 w' W c n vp td [] []) => clDown_any W1 W c n vp vr l rows c td [] [] w' F (Enc.mono _ h (fun _ h => h) (fun b hb => hW.block b (hF b hb))) (Enc.mono _ hr (fun _ h => h) (fun b hb => hW.block b (hF b hb))) he (by omega) hk h60 rfl hgood)
  have HFIT := Lib.hid h60
  clear h hr hs hF hE hany hfit hgood he
  subst hvp
  obtain ⟨⟨eD, aD, oD⟩, hD⟩ : ∃ D, Cl.dn l rows c 2001 td.reverse [] = D := ⟨_, rfl⟩
  rw [hD] at HD
  have HDN := Lib.hid hD
  clear hD
  by_cases he : eD ≠ 0
  · rw [Cl.end_err HDN.out he, Cl.fin_bad he]
    have hz1 : (eD != 0) = true := by rw [bne_iff_ne]; exact he
    have hz2 : (eD == 0) = false := by rw [beq_eq_false_iff_ne]; exact he
    clear he
    go_enter Try.func206, Try.ntmps206
    go_wp2_with (fail)
    go_at_call 208
    refine (HC.out _ hst.bel).mono ?_
    rintro e w1 ⟨rfl, hb1⟩
    replace hst := hst.call hb1
    clear hb1
    obtain ⟨g0, g1, g2⟩ := hst.at3 2 rfl
    obtain ⟨x0, x1, x2, x3⟩ := hst.at4 1 rfl
    go_wp2_with (fail)
    go_at_call 210
    refine (HB.out _ hst.bel).mono ?_
    rintro e w2 ⟨W, rfl, H1⟩
    have g0 := bkeep H1.bel g0
    go_wp2_with (fail)
    go_at_call 211
    refine (HD.out _ _ _ hst.bel H1).mono ?_
    rintro e w3 ⟨rfl, td3, out3, H2, hx⟩
    simp only at hx
    have HST := Lib.hid hst
    clear H1 hst g0 g1 g2 x0 x1 x2 x3
    obtain ⟨vt, vo, hstW⟩ := H2
    replace hst := HST.out.joined hstW
    clear hstW
    obtain ⟨x0, x1, x2, x3⟩ := hst.at4 4 rfl
    obtain ⟨y0, y1, y2, y3, yf0, yf1, yf2, yf3⟩ := hst.get4.cel4
    have hstA := ((((hst.get4.setCel 0 (.slice none 0 0)).setCel 1 (.int .i64 seen)).setCel 2 (.int .i64 eD)).setCel 3 (.bool false))
    clear hst
    go_wp2
    obtain ⟨z0, z1, z2, z3⟩ := hstA.at4 0 rfl
    refine bodyPost_ret (v := .tuple #[.agg #[.slice none 0 0, .int .i64 seen, .int .i64 eD, .bool false], .slice none 0 0, .int .i64 eD]) ?_ rfl ?_
    · simp [results, Try.results206, go_sem, z0, z1, z2, z3]
    · exact ⟨_, _, rfl, ((St.ofBel hstA.bel).nilOwn _ _).nilOwn _ _⟩
  obtain rfl : eD = 0 := by omega
  clear he
  rcases aD with _ | ⟨x, r⟩
  · rw [Cl.end_done HDN.out, Cl.fin_end rfl]
    go_enter Try.func206, Try.ntmps206
    go_wp2_with (fail)
    go_at_call 208
    refine (HC.out _ hst.bel).mono ?_
    rintro e w1 ⟨rfl, hb1⟩
    replace hst := hst.call hb1
    clear hb1
    obtain ⟨g0, g1, g2⟩ := hst.at3 2 rfl
    obtain ⟨x0, x1, x2, x3⟩ := hst.at4 1 rfl
    go_wp2_with (fail)
    go_at_call 210
    refine (HB.out _ hst.bel).mono ?_
    rintro e w2 ⟨W, rfl, H1⟩
    have g0 := bkeep H1.bel g0
    go_wp2_with (fail)
    go_at_call 211
    refine (HD.out _ _ _ hst.bel H1).mono ?_
    rintro e w3 ⟨rfl, td3, out3, H2, hx⟩
    simp only at hx
    have HST := Lib.hid hst
    clear H1 hst g0 g1 g2 x0 x1 x2 x3
    obtain ⟨rfl, rfl, h5, h6, h7⟩ := hx trivial
    clear hx
    obtain ⟨vt, vo, hstW⟩ := H2
    obtain ⟨ao2, co2, rfl⟩ := hstW.get3.own.isLen
    simp only [List.length_map] at hstW
    rcases hstW.get2.own.shape with ⟨rfl, _⟩ | ⟨ga, ca, rfl, _, _⟩
    all_goals
      replace hst := HST.out.joined hstW
      clear hstW
      have q3 := (hst.nth 0 rfl).celAt (i := 3) rfl
      have q4 := (hst.nth 0 rfl).celAt (i := 4) rfl
      obtain ⟨x0, x1, x2, x3⟩ := hst.at4 4 rfl
      obtain ⟨y0, y1', y2', y3, yf0, yf1, yf2, yf3⟩ := hst.get4.cel4
      have lW := World.block_lt_of_cell? _ _ q3
      have lX := World.block_lt_of_cell? _ _ x1
      go_wp2
      go_region
      have hstA := (((((hst.get4.setCel 0 (.slice none 0 0)).setCel 1 (.int .i64 seen)).setCel 2 (.int .i64 0)).setCel 3 (.bool true))).drew
      clear hst
      obtain ⟨z0, z1, z2, z3⟩ := hstA.at4 0 rfl
      clear x0 x1 x2 x3 y0 y1' y2' y3 yf0 yf1 yf2 yf3 q3 q4 lW lX
      generalize ((((w3.setCell ⟨w.heap.size + 1 + 1, 0, none⟩ (.slice none 0 0)).setCell ⟨w.heap.size + 1 + 1, 1, none⟩ (.int .i64 seen)).setCell ⟨w.heap.size + 1 + 1, 2, none⟩ (.int .i64 0)).setCell ⟨w.heap.size + 1 + 1, 3, none⟩ (.bool true)).drew = w8 at *
      go_wp2
      refine bodyPost_ret (v := .tuple #[.agg #[.slice none 0 0, .int .i64 seen, .int .i64 0, .bool true], .slice ao2 out3.length co2, .int .i64 0]) ?_ rfl ?_
      · simp [results, Try.results206, go_sem, z0, z1, z2, z3]
      · exact ⟨_, _, rfl, (hstA.nth 3 rfl).nilOwn _ _⟩
  · rw [Cl.end_more HDN.out, Cl.fin_bad (by simp)]
    go_enter Try.func206, Try.ntmps206
    go_wp2_with (fail)
    go_at_call 208
    refine (HC.out _ hst.bel).mono ?_
    rintro e w1 ⟨rfl, hb1⟩
    replace hst := hst.call hb1
    clear hb1
    obtain ⟨g0, g1, g2⟩ := hst.at3 2 rfl
    obtain ⟨x0, x1, x2, x3⟩ := hst.at4 1 rfl
    go_wp2_with (fail)
    go_at_call 210
    refine (HB.out _ hst.bel).mono ?_
    rintro e w2 ⟨W, rfl, H1⟩
    have g0 := bkeep H1.bel g0
    go_wp2_with (fail)
    go_at_call 211
    refine (HD.out _ _ _ hst.bel H1).mono ?_
    rintro e w3 ⟨rfl, td3, out3, H2, hx⟩
    simp only at hx
    have HST := Lib.hid hst
    clear H1 hst g0 g1 g2 x0 x1 x2 x3
    obtain ⟨rfl, rfl, h5, h6, h7⟩ := hx trivial
    clear hx
    obtain ⟨vt, vo, hstW⟩ := H2
    rcases hstW.get2.own.shape with ⟨_, he⟩ | ⟨ga, ca, rfl, _, _⟩
    · simp at he
    have hpos : (0 : Int) < ((List.map todoV (x :: r).reverse).length : Int) := by simp
    generalize (List.map todoV (x :: r).reverse).length = ln at hpos hstW
    replace hst := HST.out.joined hstW
    have w3c := (hst.nth 0 rfl).celAt (i := 3) rfl
    clear hstW
    obtain ⟨x0, x1, x2, x3⟩ := hst.at4 4 rfl
    obtain ⟨y0, y1, y2, y3, yf0, yf1, yf2, yf3⟩ := hst.get4.cel4
    have hstA := ((((hst.get4.setCel 0 (.slice none 0 0)).setCel 1 (.int .i64 seen)).setCel 2 (.int .i64 13)).setCel 3 (.bool false))
    clear hst
    go_wp2
    obtain ⟨z0, z1, z2, z3⟩ := hstA.at4 0 rfl
    refine bodyPost_ret (v := .tuple #[.agg #[.slice none 0 0, .int .i64 seen, .int .i64 13, .bool false], .slice none 0 0, .int .i64 13]) ?_ rfl ?_
    · simp [results, Try.results206, go_sem, z0, z1, z2, z3]
    · exact ⟨_, _, rfl, ((St.ofBel hstA.bel).nilOwn _ _).nilOwn _ _⟩
end Go.Proofs.Ytahoapgmiecphaa

/-
  RightRows of the reference.
-/
namespace Go.Proofs.Ytahoapgmiecphaa
set_option linter.unusedVariables false
open Go.ChangeShapes Go.WideShapes Go.ChangeAt Go.RowKit

set_option maxRecDepth 100000 in
set_option maxHeartbeats 8000000 in
theorem rrows_any (t n : Int) (vp vr : Value) (l : List (Int × List (Int × Int))) (rows : List (List Int)) (w : World) (F : Nat → Prop) (hF : ∀ b, F b → b < w.heap.size) (h : Enc.prods.R F w [vp] l)
    (hg : (((Enc.int .i64).sl 8).sl 24).R F w [vr] rows) :
    Calls Try.prog 79 #[.agg #[.int .i64 t, .int .i64 n, vp], vr] w fun e w' => e = .returned (.int .i64 (Rw.all t n l rows)) ∧ Below w.heap.size w w' := by
  have hB : Hid (∀ o, Below w.heap.size w (w.alloc o)) := Lib.hid (fun o => (Below.refl _ _).alloc (Nat.le_refl _) _)
  have HC : Hid (∀ o, Calls Try.prog 38 #[.agg #[.int .i64 t, .int .i64 n, vp]] (w.alloc o) fun e w' => e = .returned (.int .i64 (Gr.err t n l)) ∧ Below (w.alloc o).heap.size (w.alloc o) w') :=
    Lib.hid (fun o => rcfg_any t n vp l _ F (fun b hb => Nat.lt_of_lt_of_le (hF b hb) (hB.out o).size) (Enc.mono _ h (fun _ h => h) (fun b hb => (hB.out o).block b (hF b hb))))
  by_cases he : Gr.err t n l ≠ 0
  · have hne : (Gr.err t n l != 0) = true := by rw [bne_iff_ne]; exact he
    have HE := Lib.hid (Rw.all_ne (rows := rows) he)
    clear he h hg hF
    go_enter Try.func79, Try.ntmps79
    go_wp2_with (go_at_call 38; refine (HC.out _).mono ?_; rintro e w1 ⟨rfl, hb1⟩)
    go_ret
    exact ⟨by rw [HE.out]; rfl, (hB.out _).trans (hb1.mono (hB.out _).size)⟩
  have he : Gr.err t n l = 0 := Decidable.not_not.1 he
  obtain ⟨ht0, ht1, hn0, hn1, hll, _⟩ := Gr.err_zero he
  have HE0 := Lib.hid he
  have HA := Lib.hid (Rw.all_go (rows := rows) he)
  obtain ⟨aop, bp, op, cp, hvp, _, p3, p4⟩ := slProds h
  obtain ⟨aog, bg, og, cg, rfl, _, g3, g4⟩ := slSl hg
  subst hvp
  have P3 := Lib.hid p3; have P4 := Lib.hid p4; have G3 := Lib.hid g3; have G4 := Lib.hid g4
  clear h hg he p3 p4 g3 g4 hF
  by_cases h1 : (rows.length : Int) ≠ n
  · have HE := Lib.hid (Rw.err_len (t := t) (n := n) (l := l) (rows := rows) h1)
    have h11 : ((rows.length : Int) != n) = true := by rw [bne_iff_ne]; exact h1
    clear h1
    go_enter Try.func79, Try.ntmps79
    go_wp2_with (fail)
    go_at_call 38; refine (HC.out _).mono ?_; rintro e w1 ⟨rfl, hb1⟩; rw [HE0.out]
    have hG1 : GrBox w1 w.heap.size t n (.slice aop l.length cp) := GrBox.below ⟨by rw [World.cell?_alloc_new]; rfl, by rw [World.cell?_alloc_new]; rfl, by rw [World.cell?_alloc_new]; rfl⟩ hb1 (by simp)
    have hGl := hG1.lt
    obtain ⟨hg0, hg1, hg2⟩ := hG1
    go_wp2
    go_ret
    exact ⟨by rw [HA.out, HE.out]; rfl, (hB.out _).trans (hb1.mono (hB.out _).size)⟩
  have h11 : ((rows.length : Int) != n) = false := by rw [bne_eq_false_iff_eq]; exact Decidable.not_not.1 h1
  have hrn : (rows.length : Int) = n := Decidable.not_not.1 h1
  have HL := Lib.hid hrn
  have hr20 : rows.length ≤ 20 := by omega
  clear h1
  go_enter Try.func79, Try.ntmps79
  go_wp2_with (fail)
  go_at_call 38; refine (HC.out _).mono ?_; rintro e w1 ⟨rfl, hb1⟩; rw [HE0.out]
  have hG1 : GrBox w1 w.heap.size t n (.slice aop l.length cp) := GrBox.below ⟨by rw [World.cell?_alloc_new]; rfl, by rw [World.cell?_alloc_new]; rfl, by rw [World.cell?_alloc_new]; rfl⟩ hb1 (by simp)
  have hGl := hG1.lt
  have HG1 := Lib.hid hG1
  have hB1 := (hB.out _).trans (hb1.mono (hB.out _).size)
  clear hb1
  obtain ⟨hg0, hg1, hg2⟩ := hG1
  go_wp2
  clear hg0 hg1 hg2 hGl
  go_loopw [6, 7, 8] (fun i _ _ wr => ∃ k : Nat, k ≤ rows.length ∧ i = .int .i64 k ∧ Below w1.heap.size w1 wr ∧ Hid (∀ j, j < k → Rw.At t l (rows.getD j []) j)) (fun i _ _ _ => rows.length - (intOf i).toNat)
  case atStart => exact ⟨0, by omega, rfl, Below.refl _ _, Lib.hid (fun j hj => absurd hj (by omega))⟩
  case round =>
    obtain ⟨k, hk, rfl, hB2, hok⟩ := hrel
    have hBw := hB1.trans (hB2.mono hB1.size)
    have hG2 := HG1.out.below hB2 HG1.out.lt
    have hGl := hG2.lt
    obtain ⟨hg0, hg1, hg2⟩ := hG2
    by_cases hlt : k < rows.length
    · obtain ⟨rfl, hbg, _⟩ := G3.out (by omega)
      obtain ⟨gi, di, hn2', hrg⟩ := G4.out k hlt
      have hc2 := bkeep hBw hn2'
      obtain ⟨row, hrow⟩ : ∃ r, rows.getD k [] = r := ⟨_, rfl⟩
      have HBAD : Hid (¬ Rw.At t l row k → Rw.err t n l rows = 1) := Lib.hid (fun h => Rw.err_bad (fun g => h (by rw [← hrow]; exact g k hlt)))
      have HOK : Hid (Rw.At t l row k → ∀ j, j < k + 1 → Rw.At t l (rows.getD j []) j) := Lib.hid (fun h j hj => by
        rcases Nat.lt_succ_iff_lt_or_eq.1 hj with hj | rfl
        · exact hok.out j hj
        · rw [hrow]; exact h)
      rw [hrow] at hc2 hrg
      rw [hrow] at hn2'
      have HN2 := Lib.hid hn2'
      clear hrow hn2'
      obtain ⟨_, bz, oz, _, hv2, _, z3, z4⟩ := Enc.sl1 (En := Enc.int .i64) (Value.int .i64) (fun _ _ _ h => h.1) rfl 0 hrg
      simp only [Value.slice.injEq, true_and] at hv2
      obtain ⟨rfl, rfl⟩ := hv2
      have Z3 := Lib.hid z3; have Z4 := Lib.hid z4
      clear z3 z4 hrg
      have hwr : IntKind.i64.wrap (t + 1) = t + 1 := by simp [IntKind.wrap, IntKind.bits, IntKind.signed]; omega
      have HB2 := Lib.hid hB2
      by_cases hl1 : (row.length : Int) = t + 1
      · have hl1b : ((row.length : Int) != t + 1) = false := by rw [bne_eq_false_iff_eq]; exact hl1
        have HL1 := Lib.hid hl1
        have hrl : row.length ≤ 31 := by omega
        clear hl1
        go_wp2
        go_quiet (fail)
        rename_i nq
        go_wp2
        have hB4 := below_drewN HB2.out nq
        generalize wr.drewN nq = W1 at hB4 ⊢
        clear hg0 hg1 hg2 hGl hc2
        go_loopw [7, 8] (fun j _ w2 => ∃ q : Nat, q ≤ row.length ∧ j = .int .i64 q ∧ Below w1.heap.size w1 w2 ∧ Hid (∀ c, c < q → Rw.good l (row.getD c 0) k)) (fun j _ _ => row.length - (intOf j).toNat)
        case atStart => exact ⟨0, by omega, rfl, hB4, Lib.hid (fun j hj => absurd hj (by omega))⟩
        case round =>
          clear hB2 hBw hB4
          obtain ⟨q, hq, rfl, hB3, hrok⟩ := hrel
          have hBw3 := hB1.trans (hB3.mono hB1.size)
          have hG3 := HG1.out.below hB3 HG1.out.lt
          have hGl3 := hG3.lt
          obtain ⟨hg0, hg1, hg2⟩ := hG3
          have hc2 := bkeep hBw3 HN2.out
          by_cases hql : q < row.length
          · obtain ⟨rfl, hbr, _⟩ := Z3.out (by omega)
            have hx1 := bkeep hBw3 (Z4.out q hql).1
            have hxw := wf64 (Z4.out q hql).2.2
            have HRB : Hid (¬ Rw.good l (row.getD q 0) k → Rw.err t n l rows = 1) := Lib.hid (fun h => HBAD.out (fun g => h (g.2 q hql)))
            have HRO : Hid (Rw.good l (row.getD q 0) k → ∀ c, c < q + 1 → Rw.good l (row.getD c 0) k) := Lib.hid (fun h c hc => by
              rcases Nat.lt_succ_iff_lt_or_eq.1 hc with hc | rfl
              · exact hrok.out c hc
              · exact h)
            generalize row.getD q 0 = y at hx1 HRB HRO hxw
            by_cases y1 : y < -1
            · have ym : (y != -1) = true := by rw [bne_iff_ne]; omega
              have HE := Lib.hid (HRB.out (fun g => by have := g.1; omega))
              go_wp2
              go_ret
              exact ⟨by rw [HA.out, HE.out]; rfl, hBw3⟩
            by_cases y2 : (l.length : Int) ≤ y
            · have ym : (y != -1) = true := by rw [bne_iff_ne]; omega
              have HE := Lib.hid (HRB.out (fun g => by have := g.2.1; omega))
              go_wp2
              go_ret
              exact ⟨by rw [HA.out, HE.out]; rfl, hBw3⟩
            by_cases y3 : y < 0
            · have ym : (y != -1) = false := by rw [bne_eq_false_iff_eq]; omega
              have HX := Lib.hid (HRO.out ⟨by omega, by omega, fun h => by omega⟩)
              go_wp2
              go_roundw
              case rel => exact ⟨q + 1, by omega, by go_num, hB3, HX⟩
              case measure => simp [intOf]; omega
            obtain ⟨m, rfl⟩ := Int.eq_ofNat_of_zero_le (by omega : 0 ≤ y)
            have hml : m < l.length := by omega
            obtain ⟨rfl, hbp, _⟩ := P3.out (by omega)
            obtain ⟨_, hp1, _, _, _⟩ := P4.out m hml
            have hq1 := bkeep hBw3 hp1
            have HGD : Hid (Rw.good l m k ↔ (l.getD m (0, [])).1 = k) := Lib.hid ⟨fun g => by simpa using g.2.2 (by omega), fun g => ⟨by omega, by omega, fun _ => by simpa using g⟩⟩
            generalize (l.getD m (0, [])).1 = z at hq1 HGD
            clear hp1
            have ym : ((m : Int) != -1) = true := by rw [bne_iff_ne]; omega
            have hml2 : (m : Int) < l.length := by omega
            by_cases hz : z = (k : Int)
            · have HX := Lib.hid (HRO.out (HGD.out.2 hz))
              have hzb : (z != (k : Int)) = false := by rw [bne_eq_false_iff_eq]; exact hz
              clear hz y2 y3 y1
              go_wp2
              go_roundw
              case rel => exact ⟨q + 1, by omega, by go_num, hB3, HX⟩
              case measure => simp [intOf]; omega
            · have HE := Lib.hid (HRB.out (fun g => hz (HGD.out.1 g)))
              have hzb : (z != (k : Int)) = true := by rw [bne_iff_ne]; exact hz
              clear hz y2 y3 y1
              go_wp2
              go_ret
              exact ⟨by rw [HA.out, HE.out]; rfl, hBw3⟩
          · obtain rfl : q = row.length := by omega
            have HX := Lib.hid (HOK.out ⟨HL1.out, hrok.out⟩)
            go_wp2
            go_roundw
            case rel => exact ⟨k + 1, by omega, by go_num, hB3, HX⟩
            case measure => simp [intOf]; omega
      · have hl1b : ((row.length : Int) != t + 1) = true := by rw [bne_iff_ne]; exact hl1
        have HE := Lib.hid (HBAD.out (fun g => hl1 g.1))
        clear hl1
        go_wp2
        go_quiet (fail)
        go_wp2
        go_ret
        exact ⟨by rw [HA.out, HE.out]; rfl, below_drewN hBw _⟩
    · obtain rfl : k = rows.length := by omega
      have HE := Lib.hid (Rw.err_ok (t := t) (n := n) HL.out hok.out)
      go_wp2
      go_ret
      exact ⟨by rw [HA.out, HE.out]; rfl, hBw⟩
end Go.Proofs.Ytahoapgmiecphaa

/-
  RightClimber of the reference: what it computes.
-/
namespace Go.Proofs.Ytahoapgmiecphaa
set_option linter.unusedVariables false
open Go.ChangeShapes Go.WideShapes Go.ChangeAt Go.RowKit

namespace Cl
theorem take_bad {p : T → Bool} {td : List T} {k : Nat} (h : k < td.length) : (td.take (k + 1)).any p = ((td.take k).any p || p (td.getD k z)) := by
  rw [List.take_succ_eq_append_getElem h, List.any_append]
  simp [List.getD, h]
theorem bad_of_take {p : T → Bool} {td : List T} {k : Nat} (h : (td.take k).any p = true) : td.any p = true := by
  rw [List.any_eq_true] at h ⊢
  obtain ⟨x, hx, h2⟩ := h
  exact ⟨x, List.mem_of_mem_take hx, h2⟩
theorem wrong_fit {t n : Int} {np : Nat} {td : List T} {seen : Int} : wrong 0 (fits t n np td seen) = if fits t n np td seen = true then 0 else 1 := by
  cases h : fits t n np td seen
  · rw [wrong_no]; rfl
  · rw [wrong_ok]; rfl
theorem pre_alts (len : Nat) (seen : Int) : 60 < len ∨ (len ≤ 60 ∧ seen < 0) ∨ (len ≤ 60 ∧ 0 ≤ seen ∧ 1099511627776 < seen) ∨ (len ≤ 60 ∧ 0 ≤ seen ∧ seen ≤ 1099511627776) := by omega
end Cl

end Go.Proofs.Ytahoapgmiecphaa

/-
  What Climb of the reference needs: its loop as plain steps; what is ahead as it lies in memory; the closure over.
-/
namespace Go.Proofs.Ytahoapgmiecphaa
set_option linter.unusedVariables false
open Go.ChangeShapes Go.WideShapes Go.ChangeAt Go.RowKit

namespace Cl
section
variable {ps : List (Int × List (Int × Int))} {rows : List (List Int)} {c f : Nat} {last had : Bool} {seen : Int} {a r : List T} {x : T} {o : List (Int × Int)} {q : Int}
theorem go_hadNil (h : ¬ 2000 < o.length) : go ps rows c last seen (f + 1) true [] o = (0, [], o) := by
  rw [go, if_neg (by simp; omega)]; rfl
theorem go_close (h : ¬ (2000 < o.length ∨ 60 < (x :: r).length)) (hx : x.1 = true) : go ps rows c last seen (f + 1) had (x :: r) o = go ps rows c last seen f had r (o ++ [(3, x.2.1)]) := by
  rw [go, if_neg h]; simp only [hx, if_true]
theorem go_had (h : ¬ (2000 < o.length ∨ 60 < (x :: r).length)) (hx : x.1 = false) : go ps rows c last seen (f + 1) true (x :: r) o = (0, x :: r, o) := by
  rw [go, if_neg h]; simp only [hx, Bool.false_eq_true, if_false, if_true]
theorem go_lastNil (h : ¬ 2000 < o.length) : go ps rows c true seen (f + 1) false [] o = (0, [], o) := by
  rw [go, if_neg (by simp; omega)]; rfl
theorem go_nil (h : ¬ 2000 < o.length) : go ps rows c false seen (f + 1) false [] o = (13, [], []) := by
  rw [go, if_neg (by simp; omega)]; rfl
theorem go_other (h : ¬ (2000 < o.length ∨ 60 < (x :: r).length)) (hx : x.1 = false) (hk : x.2.2.1 = 1) (hn : x.2.2.2 ≠ c) : go ps rows c last seen (f + 1) false (x :: r) o = (13, [], []) := by
  rw [go, if_neg h]; simp only [hx, Bool.false_eq_true, if_false, hk, if_true]; rw [if_pos hn]
theorem go_tok (h : ¬ (2000 < o.length ∨ 60 < (x :: r).length)) (hx : x.1 = false) (hk : x.2.2.1 = 1) (hn : x.2.2.2 = c) : go ps rows c last seen (f + 1) false (x :: r) o = go ps rows c last seen f true r (o ++ [(2, seen)]) := by
  rw [go, if_neg h]; simp only [hx, Bool.false_eq_true, if_false, hk, if_true]; rw [if_neg (by omega)]
theorem go_bad (h : ¬ (2000 < o.length ∨ 60 < (x :: r).length)) (hx : x.1 = false) (hk : x.2.2.1 ≠ 1) (hq : (rows.getD x.2.2.2.toNat []).getD c 0 = q) (h2 : q < 0) : go ps rows c last seen (f + 1) false (x :: r) o = (13, [], []) := by
  rw [go_kid h hx hk, hq, if_pos h2]
theorem go_put (h : ¬ (2000 < o.length ∨ 60 < (x :: r).length)) (hx : x.1 = false) (hk : x.2.2.1 ≠ 1) (hq : (rows.getD x.2.2.2.toNat []).getD c 0 = q) (h2 : ¬ q < 0) : go ps rows c last seen (f + 1) false (x :: r) o = go ps rows c last seen f false (put ps q.toNat r) (o ++ [(1, q)]) := by
  rw [go_kid h hx hk, hq, if_neg h2]
end
end Cl

def Enc.tdo : Enc Cl.T where
  size := 4
  R := fun _ _ cs x => cs = (todoV x).cells.toList
  len := fun h => by rw [h]; rfl
  mono := fun h _ _ => h
theorem slTdo {bytes : Nat} {F : Nat → Prop} {w : World} {v : Value} {l : List Cl.T} (h : (Enc.tdo.sl bytes).R F w [v] l) :
    ∃ (ao : Option Addr) (b off cap : Nat), v = .slice ao l.length cap ∧ (l.length : Int) * bytes ≤ 140737488355328 ∧ (0 < l.length → ao = some ⟨b, off, none⟩ ∧ b < w.heap.size ∧ F b) ∧
      ∀ i, i < l.length → w.cell? ⟨b, off + i * 4, none⟩ = some (.bool (l.getD i Cl.z).1) ∧ w.cell? ⟨b, off + i * 4 + 1, none⟩ = some (.int .i64 (l.getD i Cl.z).2.1) ∧ w.cell? ⟨b, off + i * 4 + 2, none⟩ = some (.int .i64 (l.getD i Cl.z).2.2.1) ∧ w.cell? ⟨b, off + i * 4 + 3, none⟩ = some (.int .i64 (l.getD i Cl.z).2.2.2) := by
  obtain ⟨ao, b, off, cap, h0, h1, h2, h3⟩ := Enc.slN Cl.z h
  refine ⟨ao, b, off, cap, h0, h1, h2, fun i hi => ?_⟩
  obtain ⟨cs, _, g2, g3⟩ := h3 i hi
  have g4 : cs = (todoV (l.getD i Cl.z)).cells.toList := g3
  subst g4
  exact ⟨g2 0 (by decide), g2 1 (by decide), g2 2 (by decide), g2 3 (by decide)⟩
/-- All but the first one, as the slice [1:]. -/
theorem Cl.tail_slice {F : Nat → Prop} {w : World} {ao : Option Addr} {cap : Nat} {x : Cl.T} {r : List Cl.T} (h : (Enc.tdo.sl 32).R F w [.slice ao (x :: r).length cap] (x :: r)) :
    ∃ a n c, (∀ F' w', (Enc.tdo.sl 32).R F' w' [.slice ao (x :: r).length cap] (x :: r) → (Enc.tdo.sl 32).R F' w' [.slice a n c] r) ∧ ∀ W, (Instr.slice 223 (.slice ao (x :: r).length cap) (some (.int .i64 1)) none none).run Try.prog W = .ok (.slice a n c) W := by
  have hv := Enc.sliced h 1 (x :: r).length (by simp) (Nat.le_refl _)
  rw [List.take_length, show (x :: r).drop 1 = r from rfl] at hv
  have hall : ∀ F' w', (Enc.tdo.sl 32).R F' w' [.slice ao (x :: r).length cap] (x :: r) → (Enc.tdo.sl 32).R F' w' [Go.sliced ao 1 (x :: r).length cap 4] r := fun F' w' h => by
    have hv := Enc.sliced h 1 (x :: r).length (by simp) (Nat.le_refl _)
    rw [List.take_length, show (x :: r).drop 1 = r from rfl] at hv
    exact hv
  have hle : (x :: r).length ≤ cap := by
    obtain ⟨_, _, _, _, hq, hle, _⟩ := h
    simp only [List.cons.injEq, Value.slice.injEq, and_true, true_and] at hq
    omega
  have hpos : 1 ≤ (x :: r).length := by simp
  clear h
  generalize (x :: r).length = ln at *
  have hs : ∀ m : Nat, m = 1 → ∀ W, (Instr.slice 223 (.slice ao ln cap) (some (.int .i64 (m : Int))) none none).run Try.prog W = .ok (Go.sliced ao m ln cap 4) W := fun m hm W => by
    have hsz : (sizeOf (Try.prog.elem 223)).run Try.prog W = .ok 4 W := by kernel_rfl
    rw [run_slice_l W 223 ao ln cap (by kernel_rfl) .i64 m (by omega) (by omega), hsz]; rfl
  have hv2 := hv
  obtain ⟨a, _, _, c, hq, _⟩ := hv2
  simp only [List.cons.injEq, and_true] at hq
  have hq' : Go.sliced ao 1 ln cap 4 = .slice a r.length c := hq
  refine ⟨a, r.length, c, ?_, ?_⟩
  · rw [← hq']; exact hall
  · rw [← hq']; exact hs 1 rfl
theorem St.tailEnc {w0 w : World} {μ : List Asrt} {fp : List Nat} {v v' : Value} {x : Cl.T} {r : List Cl.T} (h : St w0 w (aEnc (Enc.tdo.sl 32) fp [v] (x :: r) :: μ)) (hv : ∀ F W, (Enc.tdo.sl 32).R F W [v] (x :: r) → (Enc.tdo.sl 32).R F W [v'] r) : St w0 w (aEnc (Enc.tdo.sl 32) fp [v'] r :: μ) :=
  h.turn rfl (hv _ _ (h.ok _ (.head _)))
namespace Cl
/-- A production's body, as what is ahead. -/
def asT (body : List (Int × Int)) : List T := body.map fun s => (false, 0, s.1, s.2)
theorem asT_nil : asT [] = [] := rfl
theorem asT_len {body : List (Int × Int)} : (asT body).length = body.length := by simp [asT]
theorem asT_step {body : List (Int × Int)} {k : Nat} (h : k < body.length) : asT (body.take (k + 1)) = asT (body.take k) ++ [(false, 0, (body.getD k (0, 0)).1, (body.getD k (0, 0)).2)] := by
  unfold asT
  rw [List.take_succ_eq_append_getElem h, List.map_append]; simp [List.getD, List.getElem?_eq_getElem h]
theorem asT_put {l : List (Int × List (Int × Int))} {p : Nat} {r : List T} : asT (l.getD p (0, [])).2 ++ [(true, (p : Int), 0, 0)] ++ r = put l p r := by simp [asT, put]
theorem asT_map (a r : List T) (x : T) : a.map todoV ++ [todoV x] ++ r.map todoV = (a ++ [x] ++ r).map todoV := by simp
attribute [irreducible] asT
end Cl

set_option maxRecDepth 100000 in
theorem clOver_any (v : Value) (seen ov e : Int) (dn : Bool) (C : Nat) (w : World) (h : w.cell? ⟨C, 1, none⟩ = some (.int .i64 seen)) :
    Calls Try.prog 152 #[.int .i64 e, .pointer (some ⟨C, 0, none⟩)] w fun en w' => en = .returned (.tuple #[.agg #[.slice none 0 0, .int .i64 seen, .int .i64 e, .bool false], .slice none 0 0, .int .i64 e]) ∧ Below w.heap.size w w' := by
  have hlt := World.block_lt_of_cell? _ _ h
  have hst := (St.init w).alloc #[.slice none 0 0, .int .i64 seen, .int .i64 e, .bool false] 225
  go_enter Try.func152, Try.ntmps152
  go_wp2
  obtain ⟨z0, z1, z2, z3⟩ := hst.at4 0 rfl
  refine bodyPost_ret (v := .tuple #[.agg #[.slice none 0 0, .int .i64 seen, .int .i64 e, .bool false], .slice none 0 0, .int .i64 e]) ?_ rfl ?_
  · simp [results, Try.results152, go_sem]
  · exact ⟨rfl, hst.bel⟩
end Go.Proofs.Ytahoapgmiecphaa

/-
  Climb of the reference: what it computes.
-/
namespace Go.Proofs.Ytahoapgmiecphaa
set_option linter.unusedVariables false
open Go.ChangeShapes Go.WideShapes Go.ChangeAt Go.RowKit

namespace Cl
def slLen (v : Value) : Nat := match v with | .slice _ n _ => n | _ => 0
def RefRel (ps : List (Int × List (Int × Int))) (rows : List (List Int)) (c : Nat) (last : Bool) (seen t n : Int) (X : Int × List T × List (Int × Int)) (w : World) (μ : List Asrt) (va vo vh : Value) (wr : World) : Prop :=
  ∃ f had a out fp, vh = .bool had ∧ St w wr (aEnc (Enc.tdo.sl 32) fp [va] a :: aOwn 76 2 vo (out.map pairV) :: μ) ∧ a.length ≤ 100 ∧ out.length ≤ 2001 ∧ 2002 ≤ f + out.length ∧ (had = true → last = false) ∧ Hid (∀ x ∈ a, good t n ps.length x = true) ∧ Hid (go ps rows c last seen f had a out = X)
theorem rev_step {td : List T} {k : Nat} (h : k < td.length) : (td.drop k).reverse = (td.drop (k + 1)).reverse ++ [td.getD k z] := by
  rw [List.drop_eq_getElem_cons h, List.reverse_cons]; simp [List.getD, List.getElem?_eq_getElem h]
end Cl

set_option maxRecDepth 100000 in
set_option maxHeartbeats 16000000 in
theorem clRef_any (t n seen ov : Int) (dn : Bool) (vp vr vs : Value) (l : List (Int × List (Int × Int))) (rows : List (List Int)) (td : List Cl.T) (c : Nat) (w : World) (F : Nat → Prop) (hF : ∀ b, F b → b < w.heap.size) (h : Enc.prods.R F w [vp] l)
    (hr : (((Enc.int .i64).sl 8).sl 24).R F w [vr] rows) (hs : (Enc.todo.sl 32).R F w [vs] td) (he : Rw.all t n l rows = 0) (hc : (c : Int) ≤ t) (hsn : 0 ≤ seen ∧ seen ≤ 1099511627776) (h60 : td.length ≤ 60) (hgood : ∀ x ∈ td, Cl.good t n l.length x = true) :
    Calls Try.prog 130 #[.agg #[.int .i64 t, .int .i64 n, vp], vr, .agg #[vs, .int .i64 seen, .int .i64 ov, .bool dn], .int .i64 c] w (Cl.Ret (Cl.fin (decide ((c : Int) = t)) (Cl.go l rows c (decide ((c : Int) = t)) seen 2002 false td.reverse []) seen) w) := by
  obtain ⟨hz1, hz2, hz3⟩ := Cl.rw_zero he
  obtain ⟨hz4, hz5, hz6, hz7, hl40, hz8⟩ := Gr.err_zero hz1
  have HPR := Lib.hid (fun (p : Nat) (hp : p < l.length) => hz8 (l.getD p (0, [])) (by simp [List.getD, List.getElem?_eq_getElem hp]))
  have HRW := Lib.hid hz3
  have HGD := Lib.hid hgood
  obtain ⟨aop, bp, op, cp, rfl, -, p3, p4⟩ := slProds h
  obtain ⟨aos, bs, os, cs, rfl, -, s3, s4⟩ := slTodo hs
  obtain ⟨aor, br, or_, cr, rfl, -, r3, r4⟩ := slSl hr
  have P3 := Lib.hid p3; have P4 := Lib.hid p4; have S3 := Lib.hid s3; have S4 := Lib.hid s4; have R3 := Lib.hid r3; have R4 := Lib.hid r4
  have hst := (((St.init w).alloc #[.int .i64 t, .int .i64 n, .slice aop l.length cp] 24).alloc #[.slice aos td.length cs, .int .i64 seen, .int .i64 ov, .bool dn] 225).alloc #[.slice none 0 0, .int .i64 0, .int .i64 0, .bool false] 225
  simp only [World.size_alloc] at hst
  obtain ⟨last, hlast⟩ : ∃ last, decide ((c : Int) = t) = last := ⟨_, rfl⟩
  rw [hlast]
  obtain ⟨X, hX⟩ : ∃ X, Cl.go l rows c last seen 2002 false td.reverse [] = X := ⟨_, rfl⟩
  rw [hX]
  have HX := Lib.hid hX
  have HLAST := Lib.hid hlast
  clear h hr hs hF he hz1 hz3 hz8 p3 p4 s3 s4 r3 r4 hgood hX hlast
  go_enter Try.func130, Try.ntmps130
  go_wp2
  have hst0 := hst.nilOwn 238 4
  obtain ⟨x0, x1, x2, x3⟩ := hst.at4 1 rfl
  clear hst
  go_loopw [11, 12] (fun v i wr => ∃ k : Nat, k ≤ td.length ∧ i = .int .i64 ((k : Int) - 1) ∧ St w wr (aOwn 238 4 v (((td.drop k).reverse).map todoV) :: [aCel (w.heap.size + 1 + 1) 225 #[.slice none 0 0, .int .i64 0, .int .i64 0, .bool false], aCel (w.heap.size + 1) 225 #[.slice aos td.length cs, .int .i64 seen, .int .i64 ov, .bool dn], aCel w.heap.size 24 #[.int .i64 t, .int .i64 n, .slice aop l.length cp]])) (fun _ i _ => (intOf i + 1).toNat)
  case atStart => exact ⟨td.length, Nat.le_refl _, rfl, by rw [List.drop_length]; exact hst0⟩
  case round =>
    clear hst0 x0 x1 x2 x3
    obtain ⟨k, hk, rfl, hst⟩ := hrel
    obtain ⟨x0, x1, x2, x3⟩ := hst.at4 2 rfl
    by_cases hk0 : 0 < k
    · obtain ⟨j, rfl⟩ : ∃ j, k = j + 1 := ⟨k - 1, by omega⟩
      rw [show ((j + 1 : Nat) : Int) - 1 = (j : Int) by omega]
      have hjl : j < td.length := by omega
      obtain ⟨rfl, _, _⟩ := S3.out (by omega)
      obtain ⟨q1, q2, q3, q4, -⟩ := S4.out j hjl
      have c1 := bkeep hst.bel q1
      have c2 := bkeep hst.bel q2
      have c3 := bkeep hst.bel q3
      have c4 := bkeep hst.bel q4
      have HSTEP := Lib.hid (Cl.rev_step hjl)
      obtain ⟨x, hx⟩ : ∃ x, x = td.getD j Cl.z := ⟨_, rfl⟩
      rw [← hx] at c1 c2 c3 c4 HSTEP
      have hll : ((td.drop (j + 1)).reverse.map todoV).length ≤ 60 := by rw [List.length_map, List.length_reverse, List.length_drop]; omega
      have hj2 : (j : Int) < td.length := by omega
      clear q1 q2 q3 q4 hx hk0
      have HST := Lib.hid hst
      clear hst
      go_wp2_with (at_builtin; refine St.app1n todoE rfl (.tmp 30) (.tmp 36) rfl rfl HST.out (todoV x) rfl _ 1 rfl (by simp) rfl (todo_one _) (by unfold maxLen; omega) (by omega) ?_; intro g5 n5 c5 w5 hst5)
      go_roundw
      case rel => exact ⟨j, by omega, rfl, by rw [HSTEP.out, List.map_append]; exact hst5⟩
      case measure => first | (simp [intOf]; done) | (simp [intOf]; omega)
    · obtain rfl : k = 0 := by omega
      rw [show (((0 : Nat) : Int) - 1) = -1 by rfl]
      rw [List.drop_zero] at hst
      have hstE := ((hst.ownEnc (En := Enc.tdo) (bytes := 32) rfl (fun _ _ _ _ => rfl) (by rw [List.length_reverse]; omega)).nilOwn 76 2).get2
      obtain ⟨fp, hfp⟩ : ∃ fp, fp = u11.ownBlock.toList := ⟨_, rfl⟩
      rw [← hfp] at hstE
      have HREL := Lib.hid (show Cl.RefRel l rows c last seen t n X w [aCel (w.heap.size + 1 + 1) 225 #[.slice none 0 0, .int .i64 0, .int .i64 0, .bool false], aCel (w.heap.size + 1) 225 #[.slice aos td.length cs, .int .i64 seen, .int .i64 ov, .bool dn], aCel w.heap.size 24 #[.int .i64 t, .int .i64 n, .slice aop l.length cp]] u11 (.slice none 0 0) (.bool false) wr from
        ⟨2002, false, td.reverse, [], fp, rfl, hstE, by rw [List.length_reverse]; omega, by simp, by simp, (fun h => by cases h), Lib.hid (fun x hx => HGD.out x (by simpa using hx)), HX⟩)
      clear hst hstE hfp hk0 hk
      go_wp2
      obtain ⟨vz, hvz⟩ : ∃ vz : Value, vz = .slice none 0 0 := ⟨_, rfl⟩
      go_loopw [9, 10, 11, 13, 15] (fun _ _ va vo vh wr => Cl.RefRel l rows c last seen t n X w [aCel (w.heap.size + 1 + 1) 225 #[.slice none 0 0, .int .i64 0, .int .i64 0, .bool false], aCel (w.heap.size + 1) 225 #[.slice aos td.length cs, .int .i64 seen, .int .i64 ov, .bool dn], aCel w.heap.size 24 #[.int .i64 t, .int .i64 n, .slice aop l.length cp]] va vo vh wr) (fun _ _ _ vo _ _ => 2003 - Cl.slLen vo)
      case atStart => exact HREL.out
      case round =>
        clear HREL HX hvz vz
        obtain ⟨f, had, a, out, fp, rfl, hst, ha100, ho, hf, hhl, HG, HX⟩ := hrel
        obtain ⟨aoa, ba, oa, ca, rfl, -, a3, a4⟩ := slTdo hst.encR
        obtain ⟨aoo, co, rfl⟩ := (hst.nth 1 rfl).own.isLen
        rw [List.length_map] at hst ⊢
        obtain ⟨x0, x1, x2, x3⟩ := hst.at4 3 rfl
        obtain ⟨g0, g1, g2⟩ := hst.at3 4 rfl
        have A3 := Lib.hid a3; have A4 := Lib.hid a4; have HHL := Lib.hid hhl
        clear a3 a4 hhl
        by_cases h20 : 2000 < out.length
        · have hx := HX.out
          rw [Cl.go_over (.inl h20)] at hx
          subst hx
          rw [Cl.fin_bad (by simp)]
          clear HX
          go_wp2_with (fail)
          go_at_call 152
          refine (clOver_any (.slice none 0 0) seen ov 14 dn (w.heap.size + 1) _ (hst.at4 3 rfl).2.1).mono ?_
          rintro e w5 ⟨rfl, hb5⟩
          replace hst := hst.call hb5
          clear hb5
          obtain ⟨y0, y1, y2, y3, yf0, yf1, yf2, yf3⟩ := hst.get3.cel4
          have hstA := ((((hst.get3.setCel 0 (.slice none 0 0)).setCel 1 (.int .i64 seen)).setCel 2 (.int .i64 14)).setCel 3 (.bool false))
          clear hst
          go_wp2
          obtain ⟨z0, z1, z2, z3⟩ := hstA.at4 0 rfl
          refine bodyPost_ret (v := .tuple #[.agg #[.slice none 0 0, .int .i64 seen, .int .i64 14, .bool false], .slice none 0 0, .int .i64 14]) ?_ rfl ?_
          · simp [results, Try.results130, go_sem, z0, z1, z2, z3]
          · exact ⟨_, _, rfl, ((St.ofBel hstA.bel).nilOwn _ _).nilOwn _ _⟩
        by_cases h61 : 60 < a.length
        · have hx := HX.out
          rw [Cl.go_over (.inr h61)] at hx
          subst hx
          rw [Cl.fin_bad (by simp)]
          clear HX
          go_wp2_with (fail)
          go_at_call 152
          refine (clOver_any (.slice none 0 0) seen ov 14 dn (w.heap.size + 1) _ (hst.at4 3 rfl).2.1).mono ?_
          rintro e w5 ⟨rfl, hb5⟩
          replace hst := hst.call hb5
          clear hb5
          obtain ⟨y0, y1, y2, y3, yf0, yf1, yf2, yf3⟩ := hst.get3.cel4
          have hstA := ((((hst.get3.setCel 0 (.slice none 0 0)).setCel 1 (.int .i64 seen)).setCel 2 (.int .i64 14)).setCel 3 (.bool false))
          clear hst
          go_wp2
          obtain ⟨z0, z1, z2, z3⟩ := hstA.at4 0 rfl
          refine bodyPost_ret (v := .tuple #[.agg #[.slice none 0 0, .int .i64 seen, .int .i64 14, .bool false], .slice none 0 0, .int .i64 14]) ?_ rfl ?_
          · simp [results, Try.results130, go_sem, z0, z1, z2, z3]
          · exact ⟨_, _, rfl, ((St.ofBel hstA.bel).nilOwn _ _).nilOwn _ _⟩
        have h20' : (out.length : Int) ≤ 2000 := by omega
        have h61' : (a.length : Int) ≤ 60 := by omega
        obtain ⟨f, rfl⟩ : ∃ g, f = g + 1 := ⟨f - 1, by omega⟩
        rcases a with _ | ⟨x, r⟩
        · cases had
          · cases last
            · have hx := HX.out
              rw [Cl.go_nil h20] at hx
              subst hx
              rw [Cl.fin_bad (by simp)]
              have hct : ((c : Int) == t) = false := by rw [beq_eq_false_iff_ne]; exact of_decide_eq_false HLAST.out
              clear HX
              go_wp2_with (fail)
              go_at_call 152
              refine (clOver_any (.slice none 0 0) seen ov 13 dn (w.heap.size + 1) _ (hst.at4 3 rfl).2.1).mono ?_
              rintro e w5 ⟨rfl, hb5⟩
              replace hst := hst.call hb5
              clear hb5
              obtain ⟨y0, y1, y2, y3, yf0, yf1, yf2, yf3⟩ := hst.get3.cel4
              have hstA := ((((hst.get3.setCel 0 (.slice none 0 0)).setCel 1 (.int .i64 seen)).setCel 2 (.int .i64 13)).setCel 3 (.bool false))
              clear hst
              go_wp2
              obtain ⟨z0, z1, z2, z3⟩ := hstA.at4 0 rfl
              refine bodyPost_ret (v := .tuple #[.agg #[.slice none 0 0, .int .i64 seen, .int .i64 13, .bool false], .slice none 0 0, .int .i64 13]) ?_ rfl ?_
              · simp [results, Try.results130, go_sem, z0, z1, z2, z3]
              · exact ⟨_, _, rfl, ((St.ofBel hstA.bel).nilOwn _ _).nilOwn _ _⟩
            · have hx := HX.out
              rw [Cl.go_lastNil h20] at hx
              subst hx
              rw [Cl.fin_end rfl]
              have hct : ((c : Int) == t) = true := by rw [beq_iff_eq]; exact of_decide_eq_true HLAST.out
              clear HX
              obtain ⟨y0, y1, y2, y3, yf0, yf1, yf2, yf3⟩ := hst.get3.cel4
              have hstA := ((((hst.get3.setCel 0 (.slice none 0 0)).setCel 1 (.int .i64 seen)).setCel 2 (.int .i64 0)).setCel 3 (.bool true))
              clear hst
              go_wp2
              obtain ⟨z0, z1, z2, z3⟩ := hstA.at4 0 rfl
              refine bodyPost_ret (v := .tuple #[.agg #[.slice none 0 0, .int .i64 seen, .int .i64 0, .bool true], .slice aoo out.length co, .int .i64 0]) ?_ rfl ?_
              · simp [results, Try.results130, go_sem, z0, z1, z2, z3]
              · exact ⟨_, _, rfl, (hstA.nth 2 rfl).nilOwn _ _⟩
          · have hx := HX.out
            rw [Cl.go_hadNil h20] at hx
            subst hx
            obtain rfl : last = false := HHL.out rfl
            rw [Cl.fin_go rfl]
            clear HX
            have hstE := (hst.alloc #[.slice none 0 0, .int .i64 (seen + 1), .int .i64 0, .bool false] 225).nilOwn 238 4
            clear hst
            have lx := World.block_lt_of_cell? _ _ x0
            go_wp2
            clear x0 x1 x2 x3 g0 g1 g2 lx
            generalize hE : wr.heap.size = E at *
            generalize wr.alloc (.cells #[.slice none 0 0, .int .i64 (seen + 1), .int .i64 0, .bool false] 225) = W1 at hstE ⊢
            clear hE A3 A4 HG HHL
            clear wr
            go_loopw [21] (fun i wr => ∃ k : Nat, k ≤ ([] : List Cl.T).length ∧ i = .int .i64 ((k : Int) - 1) ∧ ∃ vE, St w wr (aCel E 225 #[vE, .int .i64 (seen + 1), .int .i64 0, .bool false] :: aOwn 238 4 vE (((([] : List Cl.T).drop k).reverse).map todoV) :: aEnc (Enc.tdo.sl 32) fp [.slice aoa ([] : List Cl.T).length ca] ([] : List Cl.T) :: aOwn 76 2 (.slice aoo out.length co) (out.map pairV) :: [aCel (w.heap.size + 1 + 1) 225 #[.slice none 0 0, .int .i64 0, .int .i64 0, .bool false], aCel (w.heap.size + 1) 225 #[.slice aos td.length cs, .int .i64 seen, .int .i64 ov, .bool dn], aCel w.heap.size 24 #[.int .i64 t, .int .i64 n, .slice aop l.length cp]])) (fun i _ => (intOf i + 1).toNat)
            case atStart => exact ⟨([] : List Cl.T).length, Nat.le_refl _, by go_num, _, by rw [List.drop_length]; exact hstE.get2⟩
            case round =>
              clear hstE W1
              obtain ⟨k, hk, rfl, vE, hst⟩ := hrel
              obtain ⟨_, bb, ob, _, hv, -, b3, b4⟩ := slTdo (hst.encAt 2 rfl)
              simp only [Value.slice.injEq, true_and] at hv
              obtain ⟨rfl, rfl⟩ := hv
              obtain ⟨aE, cE, rfl⟩ := hst.get2.own.isLen
              rw [List.length_map, List.length_reverse, List.length_drop] at hst
              have hk0 : k = 0 := by simpa using hk
              obtain rfl : k = 0 := hk0
              rw [List.drop_zero, Nat.sub_zero] at hst
              simp only [List.length_nil] at hst
              clear b3 b4 hk
              obtain ⟨e0, e1, e2, e3⟩ := hst.at4 0 rfl
              obtain ⟨y0, y1, y2, y3, yf0, yf1, yf2, yf3⟩ := hst.get5.cel4
              have hstA := ((((hst.get5.setCel 0 (.slice aE (0) cE)).setCel 1 (.int .i64 (seen + 1))).setCel 2 (.int .i64 0)).setCel 3 (.bool false))
              clear hst
              go_wp2
              obtain ⟨z0, z1, z2, z3⟩ := hstA.at4 0 rfl
              refine bodyPost_ret (v := .tuple #[.agg #[.slice aE (0) cE, .int .i64 (seen + 1), .int .i64 0, .bool false], .slice aoo out.length co, .int .i64 0]) ?_ rfl ?_
              · simp [results, Try.results130, go_sem, z0, z1, z2, z3]
              · exact ⟨.slice aE (0) cE, _, rfl, (hstA.drop.drop.get2.drop).two⟩
        · obtain ⟨c0, c1, c2, c3⟩ := A4.out 0 (by simp)
          obtain ⟨rfl, hba, -⟩ := A3.out (by simp)
          have hget : (x :: r).getD 0 Cl.z = x := rfl
          rw [hget] at c0 c1 c2 c3
          rw [Nat.zero_mul, Nat.add_zero] at c0 c1 c2 c3
          obtain ⟨at_, nt, ct, hv2, hsl⟩ := Cl.tail_slice hst.encR
          have HSL := Lib.hid hsl
          have HV2 := Lib.hid hv2
          obtain ⟨A, hA⟩ : ∃ A : List Cl.T, A = x :: r := ⟨_, rfl⟩
          have hlA : A.length = r.length + 1 := by rw [hA, List.length_cons]
          have hpos : (0 : Int) < (A.length : Int) := by omega
          have hneg : ¬ (2000 < out.length ∨ 60 < (x :: r).length) := by omega
          have HNEG := Lib.hid hneg
          rw [← hA] at hst h61' ha100 HSL HV2 ⊢
          have HA := Lib.hid hA
          have HLA := Lib.hid hlA
          clear hget hsl hv2 hneg hlA h61 hA
          cases hx1 : x.1
          · rw [hx1] at c0
            cases had
            · rcases Cl.good_open (HG.out x (.head _)) hx1 with ⟨hk, hk0, hk1⟩ | ⟨hk, hk0, hk1⟩
              · rw [hk] at c2
                have lba := World.block_lt_of_cell? _ _ c0
                have lX := World.block_lt_of_cell? _ _ x0
                have lG := World.block_lt_of_cell? _ _ g0
                by_cases hN : x.2.2.2 = c
                · have hx := HX.out
                  rw [Cl.go_tok HNEG.out hx1 hk hN] at hx
                  have HX2 := Lib.hid hx
                  have hNb : (x.2.2.2 != (c : Int)) = false := by rw [bne_eq_false_iff_eq]; exact hN
                  have hlf : last = false := by rw [← HLAST.out]; exact decide_eq_false (by omega)
                  have HLF := Lib.hid hlf
                  have HST := Lib.hid (hst.skip (.cells #[.int .i64 1, .int .i64 x.2.2.2] 79)).get2
                  have hsl := HSL.out
                  clear HX hx hx1 hst hN hk0 hk1 hk hlf HHL
                  go_wp2_with (at_builtin; refine St.app1n evtE3 rfl (.tmp 104) (.tmp 108) rfl rfl HST.out (pairV (2, seen)) rfl _ 1 rfl (by simp) rfl (pair_one3 _) (by rw [List.length_map]; unfold maxLen; omega) (by rw [List.length_map]; omega) ?_; intro g6 n6 c6 w6 hst6)
                  obtain rfl : n6 = out.length + 1 := by have := hst6.own.len; simpa using this
                  have hst7 := (((HA.out ▸ hst6.get2 : St w w6 (aEnc (Enc.tdo.sl 32) fp [_] (x :: r) :: _))).tailEnc (fun F W q => HV2.out F W (HA.out ▸ q)))
                  have hrel : Cl.RefRel l rows c last seen t n X w [aCel (w.heap.size + 1 + 1) 225 #[.slice none 0 0, .int .i64 0, .int .i64 0, .bool false], aCel (w.heap.size + 1) 225 #[.slice aos td.length cs, .int .i64 seen, .int .i64 ov, .bool dn], aCel w.heap.size 24 #[.int .i64 t, .int .i64 n, .slice aop l.length cp]] (.slice at_ nt ct) (.slice (some ⟨g6, 0, none⟩) (out.length + 1) c6) (.bool true) w6 :=
                    ⟨f, true, r, out ++ [(2, seen)], fp, rfl, by rw [List.map_append]; exact hst7, by have := HLA.out; omega, by rw [List.length_append, List.length_singleton]; omega, by rw [List.length_append, List.length_singleton]; omega, (fun _ => HLF.out), Lib.hid (fun y hy => HG.out y (.tail _ hy)), HX2⟩
                  go_roundw
                  case rel => exact hrel
                  case measure => simp [Cl.slLen]; omega
                · have hx := HX.out
                  rw [Cl.go_other HNEG.out hx1 hk hN] at hx
                  subst hx
                  rw [Cl.fin_bad (by simp)]
                  have hNb : (x.2.2.2 != (c : Int)) = true := by rw [bne_iff_ne]; exact hN
                  replace hst := hst.skip (.cells #[.int .i64 1, .int .i64 x.2.2.2] 79)
                  clear HX hx1 hN hk0 hk1 hk
                  go_wp2_with (fail)
                  go_at_call 152
                  refine (clOver_any (.slice none 0 0) seen ov 13 dn (w.heap.size + 1) _ (hst.at4 3 rfl).2.1).mono ?_
                  rintro e w5 ⟨rfl, hb5⟩
                  replace hst := hst.call hb5
                  clear hb5
                  obtain ⟨y0, y1, y2, y3, yf0, yf1, yf2, yf3⟩ := hst.get3.cel4
                  have hstA := ((((hst.get3.setCel 0 (.slice none 0 0)).setCel 1 (.int .i64 seen)).setCel 2 (.int .i64 13)).setCel 3 (.bool false))
                  clear hst
                  go_wp2
                  obtain ⟨z0, z1, z2, z3⟩ := hstA.at4 0 rfl
                  refine bodyPost_ret (v := .tuple #[.agg #[.slice none 0 0, .int .i64 seen, .int .i64 13, .bool false], .slice none 0 0, .int .i64 13]) ?_ rfl ?_
                  · simp [results, Try.results130, go_sem, z0, z1, z2, z3]
                  · exact ⟨_, _, rfl, ((St.ofBel hstA.bel).nilOwn _ _).nilOwn _ _⟩
              · have hkn : x.2.2.1 ≠ 1 := by omega
                have hkb : (x.2.2.1 == 1) = false := by rw [beq_eq_false_iff_ne]; exact hkn
                obtain ⟨s, hs⟩ : ∃ s : Nat, x.2.2.2 = s := Int.eq_ofNat_of_zero_le hk0
                have hsl2 : s < rows.length := by omega
                obtain ⟨rfl, hbr, -⟩ := R3.out (by omega)
                obtain ⟨ai, ci, q2, q3⟩ := R4.out s hsl2
                obtain ⟨hrow, hgd2⟩ := HRW.out s hsl2
                obtain ⟨_, bs2, os2, _, hv, -, q4, q5⟩ := Enc.sl1 (En := Enc.int .i64) (Value.int .i64) (fun _ _ _ h => h.1) rfl 0 q3
                simp only [Value.slice.injEq, true_and] at hv
                obtain ⟨rfl, rfl⟩ := hv
                have hcl : c < (rows.getD s []).length := by omega
                obtain ⟨rfl, hbs, -⟩ := q4 (by omega)
                have q6 := (q5 c hcl).1
                obtain ⟨e1, e2, -⟩ := hgd2 c hcl
                obtain ⟨q, hq⟩ : ∃ q, (rows.getD s []).getD c 0 = q := ⟨_, rfl⟩
                rw [hq] at q6 e1 e2
                have HQ : Hid ((rows.getD x.2.2.2.toNat []).getD c 0 = q) := Lib.hid (by rw [hs, Int.toNat_natCast]; exact hq)
                generalize (rows.getD s []).length = rl at *
                have q2 := bkeep hst.bel q2
                have q6 := bkeep hst.bel q6
                rw [hs] at c3
                have hsl3 : (s : Int) < rows.length := by omega
                have hcl3 : (c : Int) < rl := by omega
                have h0s : (0 : Int) ≤ (s : Int) := by omega
                have h0c : (0 : Int) ≤ (c : Int) := by omega
                have lba := World.block_lt_of_cell? _ _ c0
                have lX := World.block_lt_of_cell? _ _ x0
                have lG := World.block_lt_of_cell? _ _ g0
                have lR := World.block_lt_of_cell? _ _ q2
                have lS := World.block_lt_of_cell? _ _ q6
                by_cases hq0 : q < 0
                · have hx := HX.out
                  rw [Cl.go_bad HNEG.out hx1 hkn HQ.out hq0] at hx
                  subst hx
                  rw [Cl.fin_bad (by simp)]
                  replace hst := hst.skip (.cells #[.int .i64 x.2.2.1, .int .i64 s] 79)
                  clear HX hx1 hk0 hk1 hk hkn hs q3 q4 q5 hrow hgd2 hcl hq hbr hbs hsl2
                  go_wp2_with (fail)
                  go_at_call 152
                  refine (clOver_any (.slice none 0 0) seen ov 13 dn (w.heap.size + 1) _ (hst.at4 3 rfl).2.1).mono ?_
                  rintro e w5 ⟨rfl, hb5⟩
                  replace hst := hst.call hb5
                  clear hb5
                  obtain ⟨y0, y1, y2, y3, yf0, yf1, yf2, yf3⟩ := hst.get3.cel4
                  have hstA := ((((hst.get3.setCel 0 (.slice none 0 0)).setCel 1 (.int .i64 seen)).setCel 2 (.int .i64 13)).setCel 3 (.bool false))
                  clear hst
                  go_wp2
                  obtain ⟨z0, z1, z2, z3⟩ := hstA.at4 0 rfl
                  refine bodyPost_ret (v := .tuple #[.agg #[.slice none 0 0, .int .i64 seen, .int .i64 13, .bool false], .slice none 0 0, .int .i64 13]) ?_ rfl ?_
                  · simp [results, Try.results130, go_sem, z0, z1, z2, z3]
                  · exact ⟨_, _, rfl, ((St.ofBel hstA.bel).nilOwn _ _).nilOwn _ _⟩
                · obtain ⟨p, rfl⟩ := Int.eq_ofNat_of_zero_le (by omega : 0 ≤ q)
                  have hpl : p < l.length := by omega
                  obtain ⟨hb8, -, -, hbg⟩ := HPR.out p hpl
                  have hx := HX.out
                  rw [Cl.go_put HNEG.out hx1 hkn HQ.out hq0, Int.toNat_natCast] at hx
                  have HX2 := Lib.hid hx
                  have HNP : Hid (∀ y ∈ Cl.put l p r, Cl.good t n l.length y = true) := Lib.hid (Cl.put_good hbg hpl (fun y hy => HG.out y (.tail _ hy)))
                  have hpq := Cl.asT_put (l := l) (p := p) (r := r)
                  obtain ⟨rfl, hbp, -⟩ := P3.out (by omega)
                  obtain ⟨vb, -, p5, p6, -⟩ := P4.out p hpl
                  generalize (l.getD p (0, [])).2 = body at *
                  have HPQ := Lib.hid hpq
                  obtain ⟨aob, bb, ob, cb, rfl, -, b3, b4⟩ := slTwo p6
                  have B3 := Lib.hid b3; have B4 := Lib.hid b4; have P5 := Lib.hid p5
                  have hpl2 : (p : Int) < l.length := by omega
                  have h0p : (0 : Int) ≤ (p : Int) := by omega
                  have hstS := (hst.skip (.cells #[.int .i64 x.2.2.1, .int .i64 s] 79))
                  clear HX hx hx1 hk0 hk1 hk hkn hs q3 q4 q5 hrow hgd2 hcl hq hbr hbs hsl2 hbg hpq p5 p6 b3 b4 hst hq0 hbp
                  go_wp2
                  have hstN := hstS.nilOwn 238 4
                  clear c0 c1 c2 c3 q2 q6 lba lX lG lR lS x0 x1 x2 x3 g0 g1 g2 hstS
                  generalize wr.alloc (.cells #[.int .i64 x.2.2.1, .int .i64 s] 79) = W1 at hstN ⊢
                  generalize wr.heap.size = xb
                  clear A3 A4 hba
                  clear wr
                  go_loopw [18, 19] (fun v i wr => ∃ k : Nat, k ≤ body.length ∧ i = .int .i64 k ∧ St w wr (aOwn 238 4 v ((Cl.asT (body.take k)).map todoV) :: aEnc (Enc.tdo.sl 32) fp [.slice (some ⟨ba, oa, none⟩) A.length ca] A :: aOwn 76 2 (.slice aoo out.length co) (out.map pairV) :: [aCel (w.heap.size + 1 + 1) 225 #[.slice none 0 0, .int .i64 0, .int .i64 0, .bool false], aCel (w.heap.size + 1) 225 #[.slice aos td.length cs, .int .i64 seen, .int .i64 ov, .bool dn], aCel w.heap.size 24 #[.int .i64 t, .int .i64 n, .slice (some ⟨bp, op, none⟩) l.length cp]])) (fun _ i _ => body.length - (intOf i).toNat)
                  case atStart => exact ⟨0, by omega, rfl, by rw [List.take_zero, Cl.asT_nil]; exact hstN⟩
                  case round =>
                    clear hstN W1
                    obtain ⟨k, hk, rfl, hst⟩ := hrel
                    obtain ⟨g0, g1, g2⟩ := hst.at3 5 rfl
                    have p5 := bkeep hst.bel P5.out
                    by_cases hkl : k < body.length
                    · obtain ⟨rfl, _, _⟩ := B3.out (by omega)
                      obtain ⟨s1, s2, -, -⟩ := B4.out k hkl
                      have c1 := bkeep hst.bel s1
                      have c2 := bkeep hst.bel s2
                      have HSTEP := Lib.hid (Cl.asT_step hkl)
                      obtain ⟨y, hy⟩ : ∃ y, y = body.getD k (0, 0) := ⟨_, rfl⟩
                      rw [← hy] at c1 c2 HSTEP
                      have hkl2 : (k : Int) < body.length := by omega
                      have hll : ((Cl.asT (body.take k)).map todoV).length ≤ 8 := by rw [List.length_map, Cl.asT_len, List.length_take]; omega
                      have HST := Lib.hid hst
                      clear s1 s2 hy hst
                      go_wp2_with (at_builtin; refine St.app1n todoE rfl (.tmp 138) (.tmp 149) rfl rfl HST.out (todoV (false, 0, y.1, y.2)) rfl _ 1 rfl (by simp) rfl (todo_one _) (by unfold maxLen; omega) (by omega) ?_; intro g5 n5 c5 w5 hst5)
                      go_roundw
                      case rel => exact ⟨k + 1, by omega, by go_num, by rw [HSTEP.out, List.map_append]; exact hst5⟩
                      case measure => first | (simp [intOf]; done) | (simp [intOf]; omega)
                    · obtain rfl : k = body.length := by omega
                      rw [List.take_length] at hst
                      have hsl := HSL.out
                      have hll : ((Cl.asT body).map todoV).length ≤ 8 := by rw [List.length_map, Cl.asT_len]; omega
                      have HST := Lib.hid hst
                      have hA60 : r.length ≤ 60 := by have := HLA.out; omega
                      clear hst hkl
                      go_wp2_with (first
                        | (at_builtin; refine St.app1n todoE rfl (.tmp 151) (.tmp 154) rfl rfl HST.out (todoV (true, (p : Int), 0, 0)) rfl _ 1 rfl (by simp) rfl (todo_one _) (by unfold maxLen; omega) (by omega) ?_; intro g5 n5 c5 w5 hst5; have HST5 := Lib.hid hst5; clear hst5)
                        | (at_builtin; refine St.appSl todoE rfl (.tmp 156) (.tmp 158) rfl rfl HST5.out (En := Enc.tdo) (b2 := 32) rfl (HV2.out _ _ (HST5.out.encAt 1 rfl)) rfl todoV (fun _ _ _ h => h) (fun a q hq => todo_one a q hq) (by rw [List.length_append, List.length_singleton]; omega) (by rw [List.length_append, List.length_singleton]; omega) ?_; intro v6 w6 hst6; rw [Cl.asT_map] at hst6; have HST6 := Lib.hid (((hst6.ownEnc (En := Enc.tdo) (bytes := 32) (l := Cl.asT body ++ [(true, (p : Int), 0, 0)] ++ r) (f := todoV) rfl (fun _ _ _ _ => rfl) (by rw [List.length_append, List.length_append, List.length_singleton, Cl.asT_len]; omega)).get2).drop.get2); clear hst6)
                        | (at_builtin; refine St.app1n evtE3 rfl (.tmp 160) (.tmp 163) rfl rfl HST6.out (pairV (1, (p : Int))) rfl _ 1 rfl (by simp) rfl (pair_one3 _) (by rw [List.length_map]; unfold maxLen; omega) (by rw [List.length_map]; omega) ?_; intro g7 n7 c7 w7 hst7; have HST7 := Lib.hid hst7; clear hst7))
                      obtain rfl : n7 = out.length + 1 := by have := HST7.out.own.len; simpa using this
                      have hlp : (Cl.put l p r).length ≤ 100 := by rw [← HPQ.out, List.length_append, List.length_append, List.length_singleton, Cl.asT_len]; omega
                      have hrel : Cl.RefRel l rows c last seen t n X w [aCel (w.heap.size + 1 + 1) 225 #[.slice none 0 0, .int .i64 0, .int .i64 0, .bool false], aCel (w.heap.size + 1) 225 #[.slice aos td.length cs, .int .i64 seen, .int .i64 ov, .bool dn], aCel w.heap.size 24 #[.int .i64 t, .int .i64 n, .slice (some ⟨bp, op, none⟩) l.length cp]] v6 (.slice (some ⟨g7, 0, none⟩) (out.length + 1) c7) (.bool false) w7 :=
                        ⟨f, false, Cl.put l p r, out ++ [(1, (p : Int))], _, rfl, by rw [List.map_append, ← HPQ.out]; exact HST7.out.get2, hlp, by rw [List.length_append, List.length_singleton]; omega, by rw [List.length_append, List.length_singleton]; omega, (fun h => by cases h), HNP, HX2⟩
                      go_roundw
                      case rel => exact hrel
                      case measure => simp [Cl.slLen]; omega
            · have hx := HX.out
              rw [Cl.go_had HNEG.out hx1] at hx
              subst hx
              obtain rfl : last = false := HHL.out rfl
              rw [Cl.fin_go rfl, ← HA.out]
              clear HX hx1
              have hstE := (hst.alloc #[.slice none 0 0, .int .i64 (seen + 1), .int .i64 0, .bool false] 225).nilOwn 238 4
              clear hst
              have lx := World.block_lt_of_cell? _ _ x0
              go_wp2
              clear x0 x1 x2 x3 g0 g1 g2 lx
              generalize hE : wr.heap.size = E at *
              generalize wr.alloc (.cells #[.slice none 0 0, .int .i64 (seen + 1), .int .i64 0, .bool false] 225) = W1 at hstE ⊢
              clear hE A3 A4 HG HHL c0 c1 c2 c3 hba
              clear wr
              go_loopw [21] (fun i wr => ∃ k : Nat, k ≤ (A).length ∧ i = .int .i64 ((k : Int) - 1) ∧ ∃ vE, St w wr (aCel E 225 #[vE, .int .i64 (seen + 1), .int .i64 0, .bool false] :: aOwn 238 4 vE ((((A).drop k).reverse).map todoV) :: aEnc (Enc.tdo.sl 32) fp [.slice (some ⟨ba, oa, none⟩) (A).length ca] (A) :: aOwn 76 2 (.slice aoo out.length co) (out.map pairV) :: [aCel (w.heap.size + 1 + 1) 225 #[.slice none 0 0, .int .i64 0, .int .i64 0, .bool false], aCel (w.heap.size + 1) 225 #[.slice aos td.length cs, .int .i64 seen, .int .i64 ov, .bool dn], aCel w.heap.size 24 #[.int .i64 t, .int .i64 n, .slice aop l.length cp]])) (fun i _ => (intOf i + 1).toNat)
              case atStart => exact ⟨(A).length, Nat.le_refl _, by go_num, _, by rw [List.drop_length]; exact hstE.get2⟩
              case round =>
                clear hstE W1
                obtain ⟨k, hk, rfl, vE, hst⟩ := hrel
                obtain ⟨_, bb, ob, _, hv, -, b3, b4⟩ := slTdo (hst.encAt 2 rfl)
                simp only [Value.slice.injEq, true_and] at hv
                obtain ⟨rfl, rfl⟩ := hv
                obtain ⟨aE, cE, rfl⟩ := hst.get2.own.isLen
                rw [List.length_map, List.length_reverse, List.length_drop] at hst
                by_cases hk0 : 0 < k
                · obtain ⟨j, rfl⟩ : ∃ j, k = j + 1 := ⟨k - 1, by omega⟩
                  rw [show ((j + 1 : Nat) : Int) - 1 = (j : Int) by omega]
                  have hjl : j < (A).length := by omega
                  obtain ⟨hbe, hbb, -⟩ := b3 (by omega)
                  cases hbe
                  obtain ⟨c1, c2, c3, c4⟩ := b4 j hjl
                  have HSTEP := Lib.hid (Cl.rev_step hjl)
                  obtain ⟨x9, hx9⟩ : ∃ x9, x9 = (A).getD j Cl.z := ⟨_, rfl⟩
                  rw [← hx9] at c1 c2 c3 c4 HSTEP
                  have y0 := hst.celAt (i := 0) rfl
                  have ly := World.block_lt_of_cell? _ _ y0
                  have hj2 : (j : Int) < (A).length := by omega
                  have hj3 : (0 : Int) ≤ (j : Int) := by omega
                  have hll : (((A).drop (j + 1)).reverse.map todoV).length ≤ 60 := by rw [List.length_map, List.length_reverse, List.length_drop]; omega
                  have HSTD := Lib.hid hst.get2.drew
                  clear hx9 hk0 b3 b4 hst
                  go_wp2
                  go_region_law ((refine St.step1n todoE (by rfl) (.tmp 177) (.tmp 182) (by rfl) (by rfl) HSTD.out (todoV x9) rfl _ 1 rfl (by simp) rfl (todo_one _) (by unfold maxLen; omega) (by omega) ?_; intro g5 n5 c5 w5 hst5; have z0 := (hst5.nth 1 rfl).celAt (i := 0) rfl; have zf0 := (hst5.nth 1 rfl).celFree 0))
                  all_goals
                    go_wp2
                    have hst6 := (hst5.get2.setCel 0 (.slice (some ⟨g5, 0, none⟩) n5 c5))
                    go_roundw
                    case rel => exact ⟨j, by omega, rfl, .slice (some ⟨g5, 0, none⟩) n5 c5, by rw [HSTEP.out, List.map_append]; exact hst6⟩
                    case measure => first | (simp [intOf]; done) | (simp [intOf]; omega)
                · obtain rfl : k = 0 := by omega
                  rw [List.drop_zero, Nat.sub_zero] at hst
                  clear b3 b4 hk0 hk
                  obtain ⟨e0, e1, e2, e3⟩ := hst.at4 0 rfl
                  obtain ⟨y0, y1, y2, y3, yf0, yf1, yf2, yf3⟩ := hst.get5.cel4
                  have hstA := ((((hst.get5.setCel 0 (.slice aE ((A).length) cE)).setCel 1 (.int .i64 (seen + 1))).setCel 2 (.int .i64 0)).setCel 3 (.bool false))
                  clear hst
                  go_wp2
                  obtain ⟨z0, z1, z2, z3⟩ := hstA.at4 0 rfl
                  refine bodyPost_ret (v := .tuple #[.agg #[.slice aE ((A).length) cE, .int .i64 (seen + 1), .int .i64 0, .bool false], .slice aoo out.length co, .int .i64 0]) ?_ rfl ?_
                  · simp [results, Try.results130, go_sem, z0, z1, z2, z3]
                  · exact ⟨.slice aE ((A).length) cE, _, rfl, by have hfin := (hstA.drop.drop.get2.drop).two; rw [show A.reverse = (x :: r).reverse by rw [HA.out]] at hfin; exact hfin⟩
          · rw [hx1] at c0
            have hx := HX.out
            rw [Cl.go_close HNEG.out hx1] at hx
            have HX2 := Lib.hid hx
            have HST := Lib.hid hst.get2
            have hsl := HSL.out
            clear HX hx hx1 hst
            go_wp2_with (at_builtin; refine St.app1n evtE3 rfl (.tmp 61) (.tmp 67) rfl rfl HST.out (pairV (3, x.2.1)) rfl _ 1 rfl (by simp) rfl (pair_one3 _) (by rw [List.length_map]; unfold maxLen; omega) (by rw [List.length_map]; omega) ?_; intro g6 n6 c6 w6 hst6)
            obtain rfl : n6 = out.length + 1 := by have := hst6.own.len; simpa using this
            have hst7 := (((HA.out ▸ hst6.get2 : St w w6 (aEnc (Enc.tdo.sl 32) fp [_] (x :: r) :: _))).tailEnc (fun F W q => HV2.out F W (HA.out ▸ q)))
            have hrel : Cl.RefRel l rows c last seen t n X w [aCel (w.heap.size + 1 + 1) 225 #[.slice none 0 0, .int .i64 0, .int .i64 0, .bool false], aCel (w.heap.size + 1) 225 #[.slice aos td.length cs, .int .i64 seen, .int .i64 ov, .bool dn], aCel w.heap.size 24 #[.int .i64 t, .int .i64 n, .slice aop l.length cp]] (.slice at_ nt ct) (.slice (some ⟨g6, 0, none⟩) (out.length + 1) c6) (.bool had) w6 :=
              ⟨f, had, r, out ++ [(3, x.2.1)], fp, rfl, by rw [List.map_append]; exact hst7, by have := HLA.out; omega, by rw [List.length_append, List.length_singleton]; omega, by rw [List.length_append, List.length_singleton]; omega, HHL.out, Lib.hid (fun y hy => HG.out y (.tail _ hy)), HX2⟩
            go_roundw
            case rel => exact hrel
            case measure => simp [Cl.slLen]; omega
end Go.Proofs.Ytahoapgmiecphaa

/-
  What ClimbSays needs besides: bounds of what a step tells, Begin, climbed of the law.
-/
namespace Go.Proofs.Ytahoapgmiecphaa
set_option linter.unusedVariables false
open Go.ChangeShapes Go.WideShapes Go.ChangeAt Go.RowKit

def Enc.evt : Enc (Int × Int) where
  size := 2
  R := fun _ _ cs x => cs = (pairV x).cells.toList
  len := fun h => by rw [h]; rfl
  mono := fun h _ _ => h
theorem slEvt {bytes : Nat} {F : Nat → Prop} {w : World} {v : Value} {l : List (Int × Int)} (h : (Enc.evt.sl bytes).R F w [v] l) :
    ∃ (ao : Option Addr) (b off cap : Nat), v = .slice ao l.length cap ∧ (l.length : Int) * bytes ≤ 140737488355328 ∧ (0 < l.length → ao = some ⟨b, off, none⟩ ∧ b < w.heap.size ∧ F b) ∧
      ∀ i, i < l.length → w.cell? ⟨b, off + i * 2, none⟩ = some (.int .i64 (l.getD i (0, 0)).1) ∧ w.cell? ⟨b, off + i * 2 + 1, none⟩ = some (.int .i64 (l.getD i (0, 0)).2) := by
  obtain ⟨ao, b, off, cap, h0, h1, h2, h3⟩ := Enc.slN (0, 0) h
  refine ⟨ao, b, off, cap, h0, h1, h2, fun i hi => ?_⟩
  obtain ⟨cs, _, g2, g3⟩ := h3 i hi
  have g4 : cs = (pairV (l.getD i (0, 0))).cells.toList := g3
  subst g4
  exact ⟨g2 0 (by decide), g2 1 (by decide)⟩
/-- What reads with its bounds reads without. -/
theorem todo_tdo {bytes : Nat} {F : Nat → Prop} {w : World} {v : Value} {l : List Cl.T} (h : (Enc.todo.sl bytes).R F w [v] l) : (Enc.tdo.sl bytes).R F w [v] l := by
  obtain ⟨ao, b, off, cap, h0, h1, h2, h3, h4, h5, h6⟩ := h
  refine ⟨ao, b, off, cap, h0, h1, h2, h3, h4, h5, fun i hi => ?_⟩
  obtain ⟨cs, g1, g2, g3⟩ := h6 i hi
  exact ⟨cs, g1, g2, todo_cells g3⟩

namespace Cl
section
variable {ps : List (Int × List (Int × Int))} {rows : List (List Int)} {c : Nat} {seen : Int}
theorem push_wf (a : List T) (ha : a.length ≤ 60) : (push ps rows c seen a).2.1.length ≤ 60 ∧ (push ps rows c seen a).2.2.length ≤ 2000 := by
  obtain ⟨-, k2⟩ := dn_go (ps := ps) (rows := rows) (c := c) (last := false) (seen := seen) 2001 a [] 2002 ha (by simp) (by simp) (by simp)
  rw [push]
  generalize dn ps rows c 2001 a [] = y at *
  by_cases h : y.1 = 0
  · obtain ⟨f', j1, j2, j3, j4, j5⟩ := k2 h
    rw [if_neg (by simp [h])]
    cases hy : y.2.1 with
    | nil => exact ⟨Nat.zero_le _, Nat.zero_le _⟩
    | cons x r =>
      rw [hy] at j3
      simp only [tok]
      split
      · exact ⟨Nat.zero_le _, Nat.zero_le _⟩
      split
      · exact ⟨Nat.zero_le _, Nat.zero_le _⟩
      split
      · exact ⟨Nat.zero_le _, Nat.zero_le _⟩
      · rename_i h1 h2 _ z hz
        obtain ⟨z1, z2⟩ := z
        obtain ⟨-, i2, i3, i4, -⟩ := clo_some _ _ _ _ hz
        rw [List.length_cons] at j3
        rw [List.length_append, List.length_singleton] at i4
        exact ⟨by simp only; omega, i4 (by omega)⟩
  · rw [if_pos h]; exact ⟨Nat.zero_le _, Nat.zero_le _⟩
theorem end_wf (a : List T) (ha : a.length ≤ 60) : (ending ps rows c a).2.2.length ≤ 2000 := by
  obtain ⟨-, k2⟩ := dn_go (ps := ps) (rows := rows) (c := c) (last := false) (seen := 0) 2001 a [] 2002 ha (by simp) (by simp) (by simp)
  rw [ending]
  generalize dn ps rows c 2001 a [] = y at *
  by_cases h : y.1 = 0
  · obtain ⟨f', j1, j2, j3, j4, j5⟩ := k2 h
    rw [if_neg (by simp [h])]
    split
    · exact Nat.zero_le _
    · exact j2
  · rw [if_pos h]; exact Nat.zero_le _
theorem dn_good {t n : Int} {l : List (Int × List (Int × Int))} {rows : List (List Int)} {c : Nat} (he : Rw.all t n l rows = 0) (hc : (c : Int) ≤ t) (f : Nat) :
    ∀ (a : List T) (o : List (Int × Int)), (∀ x ∈ a, good t n l.length x = true) → (dn l rows c f a o).1 = 0 → ∀ x ∈ (dn l rows c f a o).2.1, good t n l.length x = true := by
  obtain ⟨hz1, hz2, hz3⟩ := rw_zero he
  have hz8 := (Gr.err_zero hz1).2.2.2.2.2
  induction f with
  | zero => intro a o _ h; cases h
  | succ f ih =>
    intro a o hg h
    cases hY : clo a o with
    | none => rw [dn_many hY] at h; cases h
    | some y =>
      obtain ⟨a', o'⟩ := y
      obtain ⟨s1, -, -, -, s5⟩ := clo_some _ _ _ _ hY
      cases a' with
      | nil => rw [dn_nil hY]; intro x hx; cases hx
      | cons x r =>
        have hx1 := s5 x r rfl
        by_cases hk : x.2.2.1 = 1
        · rw [dn_term hY hk]; exact fun y hy => hg y (s1 y hy)
        · obtain ⟨q, hq⟩ : ∃ q, (rows.getD x.2.2.2.toNat []).getD c 0 = q := ⟨_, rfl⟩
          by_cases hq0 : q < 0
          · rw [dn_bad hY hk hq hq0] at h; cases h
          by_cases hok : o'.length < 2000 ∧ (put l q.toNat r).length ≤ 60
          · rw [dn_step hY hk hq hq0 hok] at h ⊢
            refine ih _ _ ?_ h
            rcases good_open (hg x (s1 x (.head _))) hx1 with ⟨g1, _, _⟩ | ⟨g1, g2, g3⟩
            · exact absurd g1 hk
            have hs : x.2.2.2.toNat < rows.length := by omega
            obtain ⟨hrow, hgd⟩ := hz3 _ hs
            obtain ⟨-, e2, -⟩ := hgd c (by omega)
            rw [hq] at e2
            have hpl : q.toNat < l.length := by omega
            obtain ⟨-, -, -, hbg⟩ := hz8 (l.getD q.toNat (0, [])) (by simp [List.getD, List.getElem?_eq_getElem hpl])
            exact put_good hbg hpl (fun y hy => hg y (s1 y (.tail _ hy)))
          · rw [dn_deep hY hk hq hq0 hok] at h; cases h
end
/-- The reference's loop at the end tells the same. -/
theorem ending_ref {t n : Int} {l : List (Int × List (Int × Int))} {rows : List (List Int)} {c : Nat} {seen : Int} (he : Rw.all t n l rows = 0) (hc : (c : Int) = t) (a : List T) (ha : a.length ≤ 60) (hg : ∀ x ∈ a, good t n l.length x = true) : go l rows c true seen 2002 false a [] = ending l rows c a := by
  by_cases h0 : (dn l rows c 2001 a []).1 = 0
  · refine ending_go a ha (fun x r hx => ?_)
    have hgd := dn_good he (by omega) 2001 a [] hg h0
    rw [hx] at hgd
    have hxg := hgd x (.head _)
    obtain ⟨-, k2⟩ := dn_go (ps := l) (rows := rows) (c := c) (last := true) (seen := seen) 2001 a [] 2002 ha (by simp) (by simp) (by simp)
    obtain ⟨f', j1, j2, j3, j4, j5⟩ := k2 h0
    obtain ⟨q1, q2⟩ := j5 x r hx
    rcases good_open hxg q1 with ⟨g1, g2, g3⟩ | ⟨g1, g2, g3⟩ <;> omega
  · obtain ⟨k1, -⟩ := dn_go (ps := l) (rows := rows) (c := c) (last := true) (seen := seen) 2001 a [] 2002 ha (by simp) (by simp) (by simp)
    rw [k1 h0, ending, if_pos h0]
/-- What a step tells (at a column): at a terminal, at the end. -/
def res (l : List (Int × List (Int × Int))) (rows : List (List Int)) (c : Nat) (last : Bool) (seen : Int) (a : List T) : Int × List T × List (Int × Int) := if last = true then ending l rows c a else push l rows c seen a
def wfR (r : R) : Prop := (r.st.length : Int) * 32 ≤ 140737488355328 ∧ (r.out.length : Int) * 16 ≤ 140737488355328
theorem tell_wf {l : List (Int × List (Int × Int))} {rows : List (List Int)} {td : List T} {seen ov : Int} {dn : Bool} {c : Nat} {E : Int} {last : Bool} (h1 : (td.length : Int) * 32 ≤ 140737488355328) (hz : E = 0 → td.length ≤ 60) :
    wfR (tell E last (res l rows c last seen td.reverse) td seen ov dn) := by
  by_cases hE : E = 0
  · have h60 := hz hE
    subst hE
    rw [tell_ok]
    cases last
    · have hw := push_wf (ps := l) (rows := rows) (c := c) (seen := seen) td.reverse (by rw [List.length_reverse]; exact h60)
      rw [res, if_neg (by simp)]
      generalize push l rows c seen td.reverse = X at *
      by_cases he : X.1 = 0
      · rw [fin_go he]; exact ⟨by simp only [List.length_reverse]; omega, by simp only; omega⟩
      · rw [fin_bad he]; exact ⟨by simp, by simp⟩
    · have hw := end_wf (ps := l) (rows := rows) (c := c) td.reverse (by rw [List.length_reverse]; exact h60)
      rw [res, if_pos rfl]
      generalize ending l rows c td.reverse = X at *
      by_cases he : X.1 = 0
      · rw [fin_end he]; exact ⟨by simp, by simp only; omega⟩
      · rw [fin_bad he]; exact ⟨by simp, by simp⟩
  · rw [tell_bad hE]; exact ⟨h1, by simp⟩
end Cl




set_option maxRecDepth 100000 in
set_option maxHeartbeats 8000000 in
theorem eqEvtsF {v1 v2 : Value} {l : List (Int × Int)} (w : World) {F1 F2 : Nat → Prop} (h1 : (Enc.evt.sl 16).R F1 w [v1] l) (h2 : (Enc.evt.sl 16).R F2 w [v2] l) :
    Calls Try.prog 28 #[v1, v2] w fun e w' => e = .returned (.bool true) ∧ Below w.heap.size w w' := by
  obtain ⟨a1, b1, o1, c1, rfl, k1, k3, k4⟩ := slEvt h1
  obtain ⟨a2, b2, o2, c2, rfl, g1, g3, g4⟩ := slEvt h2
  have hll : (l.length : Int) ≤ 140737488355328 := by omega
  have K3 := Lib.hid k3; have K4 := Lib.hid k4; have G3 := Lib.hid g3; have G4 := Lib.hid g4
  clear k3 k4 g3 g4 h1 h2 k1 g1
  have hne : ((l.length : Int) != (l.length : Int)) = false := by rw [bne_eq_false_iff_eq]
  go_enter Try.func28, Try.ntmps28
  go_wp2
  go_loopw [5, 13] (fun _ i wr => ∃ k : Nat, k ≤ l.length ∧ i = .int .i64 k ∧ Below w.heap.size w wr) (fun _ i _ => l.length - (intOf i).toNat)
  case atStart => exact ⟨0, by omega, rfl, Below.refl _ _⟩
  case round =>
    obtain ⟨k, hk, rfl, hB⟩ := hrel
    by_cases hlt : k < l.length
    · obtain ⟨rfl, _⟩ := K3.out (by omega)
      obtain ⟨rfl, _⟩ := G3.out (by omega)
      have hc1 := bkeep hB (K4.out k hlt).1
      have hc2 := bkeep hB (K4.out k hlt).2
      have hc3 := bkeep hB (G4.out k hlt).1
      have hc4 := bkeep hB (G4.out k hlt).2
      generalize l.getD k (0, 0) = x at hc1 hc2 hc3 hc4
      obtain ⟨x1, x2⟩ := x
      simp only at hc1 hc2 hc3 hc4
      clear K3 K4 G3 G4
      go_wp2
      go_quiet (fail)
      go_wp2
      go_roundw
      case rel => exact ⟨k + 1, by omega, by go_num, below_drewN hB _⟩
      case measure => simp [intOf]; omega
    · clear K3 K4 G3 G4
      go_wp2
      go_ret
      exact ⟨rfl, hB⟩



set_option maxRecDepth 100000 in
theorem clBegin_any (w : World) : Calls Try.prog 127 #[] w fun e w' => ∃ v, e = .returned (.agg #[v, .int .i64 0, .int .i64 0, .bool false]) ∧ St w w' [aOwn 238 4 v ([((false, 0, 2, 0) : Cl.T)].map todoV)] := by
  have hst := ((St.init w).alloc #[.slice (some ⟨w.heap.size + 1, 0, none⟩) 1 1, .int .i64 0, .int .i64 0, .bool false] 225).alloc #[.bool false, .int .i64 0, .int .i64 2, .int .i64 0] 238
  obtain ⟨k0, k1, k2, k3⟩ := hst.at4 1 rfl
  have hO : Own ((w.alloc (.cells #[.slice (some ⟨w.heap.size + 1, 0, none⟩) 1 1, .int .i64 0, .int .i64 0, .bool false] 225)).alloc (.cells #[.bool false, .int .i64 0, .int .i64 2, .int .i64 0] 238)) 0 238 4 (.slice (some ⟨w.heap.size + 1, 0, none⟩) 1 1) ([((false, 0, 2, 0) : Cl.T)].map todoV) := by
    unfold Own
    refine ⟨rfl, .inr ⟨w.heap.size + 1, 1, #[.bool false, .int .i64 0, .int .i64 2, .int .i64 0], rfl, Nat.zero_le _, ?_, by simp, by decide, rfl, rfl⟩⟩
    have := heap_alloc_new (w.alloc (.cells #[.slice (some ⟨w.heap.size + 1, 0, none⟩) 1 1, .int .i64 0, .int .i64 0, .bool false] 225)) (.cells #[.bool false, .int .i64 0, .int .i64 2, .int .i64 0] 238)
    simpa using this
  have hst2 := (hst.nth 0 rfl).turn (A' := aOwn 238 4 (.slice (some ⟨w.heap.size + 1, 0, none⟩) 1 1) ([((false, 0, 2, 0) : Cl.T)].map todoV)) (by simp [aOwn, aCel, Value.ownBlock]) hO
  have HST := Lib.hid hst2
  clear hst hst2 hO
  go_enter Try.func127, Try.ntmps127
  go_wp2
  refine bodyPost_ret (v := .agg #[.slice (some ⟨w.heap.size + 1, 0, none⟩) 1 1, .int .i64 0, .int .i64 0, .bool false]) ?_ rfl ?_
  · simp [results, Try.results127, go_sem, k0, k1, k2, k3]
  · exact ⟨_, rfl, HST.out⟩
end Go.Proofs.Ytahoapgmiecphaa

/-
  lr.Check.
-/
namespace Go.Proofs.Ytahoapgmiecphaa
set_option linter.unusedVariables false
open Go.ChangeShapes Go.WideShapes Go.ChangeAt Go.RowKit

/-- The table's box. -/
def TbBox (w : World) (T : Nat) (va vg : Value) : Prop := w.cell? ⟨T, 0, none⟩ = some va ∧ w.cell? ⟨T, 1, none⟩ = some vg
theorem TbBox.below {w w' : World} {T : Nat} {va vg : Value} {B : Nat} (h : TbBox w T va vg) (hb : Below B w w') (hT : T < B) : TbBox w' T va vg :=
  ⟨(hb.cell (p := ⟨T, 0, none⟩) hT).trans h.1, (hb.cell (p := ⟨T, 1, none⟩) hT).trans h.2⟩
theorem TbBox.lt {w : World} {T : Nat} {va vg : Value} (h : TbBox w T va vg) : T < w.heap.size := World.block_lt_of_cell? w _ h.1

set_option maxRecDepth 100000 in
set_option maxHeartbeats 8000000 in
theorem lrCheck_gram (t n : Int) (vp va vg : Value) (l : List (Int × List (Int × Int))) (w : World) (F : Nat → Prop) (hF : ∀ b, F b → b < w.heap.size) (h : Enc.prods.R F w [vp] l) (he : Gr.err t n l ≠ 0) :
    Calls Try.prog 124 #[.agg #[.int .i64 t, .int .i64 n, vp], .agg #[va, vg]] w fun e w' => e = .returned (.int .i64 (Gr.err t n l)) ∧ Below w.heap.size w w' := by
  have hne : (Gr.err t n l != 0) = true := by rw [bne_iff_ne]; exact he
  have H := Lib.hid h; clear h
  have hB : Hid (∀ o o', Below w.heap.size w ((w.alloc o).alloc o')) := Lib.hid (fun o o' => ((Below.refl _ _).alloc (Nat.le_refl _) _).alloc (by simp) _)
  clear he
  go_enter Try.func124, Try.ntmps124
  go_wp2_with (go_at_call 99; refine (cfgCheck_any t n vp l _ F (fun b hb => Nat.lt_of_lt_of_le (hF b hb) (hB.out _ _).size) (Enc.mono _ H.out (fun _ h => h) (fun b hb => (hB.out _ _).block b (hF b hb)))).mono ?_; rintro e w1 ⟨rfl, hb1⟩)
  go_ret
  exact ⟨rfl, (hB.out _ _).trans (hb1.mono (hB.out _ _).size)⟩

set_option maxRecDepth 100000 in
set_option maxHeartbeats 16000000 in
theorem lrCheck_ok (t n : Int) (vp va vg : Value) (l : List (Int × List (Int × Int))) (acts : List (List (Int × Int))) (gts : List (List Int)) (w : World) (F : Nat → Prop) (hF : ∀ b, F b → b < w.heap.size) (h : Enc.prods.R F w [vp] l) (he : Gr.err t n l = 0)
    (ha : ((Enc.two.sl 16).sl 24).R F w [va] acts) (hg : (((Enc.int .i64).sl 8).sl 24).R F w [vg] gts) :
    Calls Try.prog 124 #[.agg #[.int .i64 t, .int .i64 n, vp], .agg #[va, vg]] w fun e w' => e = .returned (.int .i64 (Tb.err t n l.length acts gts)) ∧ Below w.heap.size w w' := by
  obtain ⟨ht0, ht1, hn0, hn1, hll, _⟩ := Gr.err_zero he
  have HE0 := Lib.hid he
  have H := Lib.hid h
  obtain ⟨aop, _, _, cp, hvp, _⟩ := slProds h
  obtain ⟨aoa, ba, oa, ca, rfl, _, a3, a4⟩ := slSl ha
  obtain ⟨aog, bg, og, cg, rfl, _, g3, g4⟩ := slSl hg
  subst hvp
  have A3 := Lib.hid a3; have A4 := Lib.hid a4; have G3 := Lib.hid g3; have G4 := Lib.hid g4
  have hB : Hid (∀ o o', Below w.heap.size w ((w.alloc o).alloc o')) := Lib.hid (fun o o' => ((Below.refl _ _).alloc (Nat.le_refl _) _).alloc (by simp) _)
  have HF := Lib.hid hF
  clear h ha hg he a3 a4 g3 g4 hF
  by_cases h200 : 200 < acts.length
  · have HE := Lib.hid (Tb.err_large (t := t) (n := n) (np := l.length) (gts := gts) h200)
    go_enter Try.func124, Try.ntmps124
    go_wp2_with (go_at_call 99; refine (cfgCheck_any t n _ l _ F (fun b hb => Nat.lt_of_lt_of_le (HF.out b hb) (hB.out _ _).size) (Enc.mono _ H.out (fun _ h => h) (fun b hb => (hB.out _ _).block b (HF.out b hb)))).mono ?_; rintro e w1 ⟨rfl, hb1⟩; rw [HE0.out]; obtain ⟨hcl, _⟩ := bcell hb1)
    go_ret
    exact ⟨by rw [HE.out]; rfl, (hB.out _ _).trans (hb1.mono (hB.out _ _).size)⟩
  by_cases h0 : acts.length = 0
  · have HE := Lib.hid (Tb.err_arg (t := t) (n := n) (np := l.length) (gts := gts) h200 (.inl h0))
    have h00 : ((acts.length : Int) == 0) = true := by rw [beq_iff_eq]; omega
    clear h0
    go_enter Try.func124, Try.ntmps124
    go_wp2_with (go_at_call 99; refine (cfgCheck_any t n _ l _ F (fun b hb => Nat.lt_of_lt_of_le (HF.out b hb) (hB.out _ _).size) (Enc.mono _ H.out (fun _ h => h) (fun b hb => (hB.out _ _).block b (HF.out b hb)))).mono ?_; rintro e w1 ⟨rfl, hb1⟩; rw [HE0.out]; obtain ⟨hcl, _⟩ := bcell hb1)
    go_ret
    exact ⟨by rw [HE.out]; rfl, (hB.out _ _).trans (hb1.mono (hB.out _ _).size)⟩
  have h00 : ((acts.length : Int) == 0) = false := by rw [beq_eq_false_iff_ne]; omega
  by_cases h1 : gts.length ≠ acts.length
  · have HE := Lib.hid (Tb.err_arg (t := t) (n := n) (np := l.length) (gts := gts) h200 (.inr h1))
    have h11 : ((gts.length : Int) != (acts.length : Int)) = true := by rw [bne_iff_ne]; omega
    clear h0 h1
    go_enter Try.func124, Try.ntmps124
    go_wp2_with (go_at_call 99; refine (cfgCheck_any t n _ l _ F (fun b hb => Nat.lt_of_lt_of_le (HF.out b hb) (hB.out _ _).size) (Enc.mono _ H.out (fun _ h => h) (fun b hb => (hB.out _ _).block b (HF.out b hb)))).mono ?_; rintro e w1 ⟨rfl, hb1⟩; rw [HE0.out]; obtain ⟨hcl, _⟩ := bcell hb1)
    go_ret
    exact ⟨by rw [HE.out]; rfl, (hB.out _ _).trans (hb1.mono (hB.out _ _).size)⟩
  have HL : Hid (gts.length = acts.length) := Lib.hid (by omega)
  have HNOT : Hid (¬ (acts.length = 0 ∨ gts.length ≠ acts.length)) := Lib.hid (by omega)
  have h11 : ((gts.length : Int) != (acts.length : Int)) = false := by rw [bne_eq_false_iff_eq]; omega
  clear h0 h1
  go_enter Try.func124, Try.ntmps124
  go_wp2_with (go_at_call 99; refine (cfgCheck_any t n _ l _ F (fun b hb => Nat.lt_of_lt_of_le (HF.out b hb) (hB.out _ _).size) (Enc.mono _ H.out (fun _ h => h) (fun b hb => (hB.out _ _).block b (HF.out b hb)))).mono ?_; rintro e w1 ⟨rfl, hb1⟩; rw [HE0.out]; have hG1 : GrBox w1 w.heap.size t n (.slice aop l.length cp) := GrBox.below ⟨by rw [World.cell?_alloc_past _ _ _ (by simp), World.cell?_alloc_new]; rfl, by rw [World.cell?_alloc_past _ _ _ (by simp), World.cell?_alloc_new]; rfl, by rw [World.cell?_alloc_past _ _ _ (by simp), World.cell?_alloc_new]; rfl⟩ hb1 (by simp; omega); have hT1 : TbBox w1 (w.heap.size + 1) (.slice aoa acts.length ca) (.slice aog gts.length cg) := TbBox.below ⟨by rw [World.cell?_alloc_at _ _ _ _ (by simp)]; rfl, by rw [World.cell?_alloc_at _ _ _ _ (by simp)]; rfl⟩ hb1 (by simp); have hB1 := (hB.out _ _).trans (hb1.mono (hB.out _ _).size); obtain ⟨hcl, _⟩ := bcell hb1)
  clear hcl hb1
  have HG1 := Lib.hid hG1; have HT1 := Lib.hid hT1
  clear hG1 hT1
  go_loopw [7, 8, 9, 11, 32, 62, 80] (fun _ _ _ _ i _ _ wr => ∃ k : Nat, k ≤ acts.length ∧ i = .int .i64 k ∧ Below w1.heap.size w1 wr ∧ Hid (∀ j, j < k → Tb.At t n l.length acts.length (acts.getD j []) (gts.getD j []))) (fun _ _ _ _ i _ _ _ => acts.length - (intOf i).toNat)
  case atStart => exact ⟨0, by omega, rfl, Below.refl _ _, Lib.hid (fun j hj => absurd hj (by omega))⟩
  case round =>
    obtain ⟨k, hk, rfl, hB2, hok⟩ := hrel
    have hBw := hB1.trans (hB2.mono hB1.size)
    have hG2 := HG1.out.below hB2 HG1.out.lt
    have hT2 := HT1.out.below hB2 HT1.out.lt
    have hGl := hG2.lt; have hTl := hT2.lt
    have HG2 := Lib.hid hG2; have HT2 := Lib.hid hT2
    obtain ⟨hg0, hg1, hg2⟩ := hG2
    obtain ⟨hq0, hq1⟩ := hT2
    by_cases hlt : k < acts.length
    · obtain ⟨rfl, hba, hFa⟩ := A3.out (by omega)
      obtain ⟨rfl, hbg, hFg⟩ := G3.out (by rw [HL.out]; omega)
      have hkg : k < gts.length := by rw [HL.out]; omega
      obtain ⟨ai, ci, hn1', hra⟩ := A4.out k hlt
      obtain ⟨gi, di, hn2', hrg⟩ := G4.out k hkg
      have hc1 := bkeep hBw hn1'
      have hc2 := bkeep hBw hn2'
      have HB2 := Lib.hid hB2
      have HAT : Hid (∀ x y, acts.getD k [] = x → gts.getD k [] = y → ¬ Tb.At t n l.length acts.length x y → Tb.err t n l.length acts gts = 1) := Lib.hid (fun x y hx hy h => Tb.err_bad h200 (fun g => h (by rw [← hx, ← hy]; exact g k hlt)))
      obtain ⟨row, hrow⟩ : ∃ r, acts.getD k [] = r := ⟨_, rfl⟩
      obtain ⟨grow, hgrow⟩ : ∃ r, gts.getD k [] = r := ⟨_, rfl⟩
      have HBAD : Hid (¬ Tb.At t n l.length acts.length row grow → Tb.err t n l.length acts gts = 1) := Lib.hid (fun h => HAT.out row grow hrow hgrow h)
      have HOK : Hid (Tb.At t n l.length acts.length row grow → ∀ j, j < k + 1 → Tb.At t n l.length acts.length (acts.getD j []) (gts.getD j [])) := Lib.hid (fun h j hj => by
        rcases Nat.lt_succ_iff_lt_or_eq.1 hj with hj | rfl
        · exact hok.out j hj
        · rw [hrow, hgrow]; exact h)
      rw [hrow] at hc1 hra
      rw [hgrow] at hc2 hrg
      rw [hgrow] at hn2'
      have HN2 := Lib.hid hn2'
      clear HAT hrow hgrow hn1' hn2'
      obtain ⟨_, br, orr, _, hv1, _, r3, r4⟩ := slTwo hra
      obtain ⟨_, bz, oz, _, hv2, _, z3, z4⟩ := Enc.sl1 (En := Enc.int .i64) (Value.int .i64) (fun _ _ _ h => h.1) rfl 0 hrg
      simp only [Value.slice.injEq, true_and] at hv1 hv2
      obtain ⟨rfl, rfl⟩ := hv1
      obtain ⟨rfl, rfl⟩ := hv2
      have R3 := Lib.hid r3; have R4 := Lib.hid r4; have Z3 := Lib.hid z3; have Z4 := Lib.hid z4
      clear r3 r4 z3 z4 hra hrg
      have hwr : IntKind.i64.wrap (t + 1) = t + 1 := by simp [IntKind.wrap, IntKind.bits, IntKind.signed]; omega
      by_cases hl1 : (row.length : Int) = t + 1
      · have hl1b : ((row.length : Int) != t + 1) = false := by rw [bne_eq_false_iff_eq]; exact hl1
        have HL1 := Lib.hid hl1
        by_cases hl2 : (grow.length : Int) = n
        · have hl2b : ((grow.length : Int) != n) = false := by rw [bne_eq_false_iff_eq]; exact hl2
          have HL2 := Lib.hid hl2
          have hrl : row.length ≤ 31 := by omega
          have hgl : grow.length ≤ 20 := by omega
          clear hl1 hl2
          go_wp2
          go_quiet (fail)
          rename_i nq
          go_wp2
          have hB3 := below_drewN HB2.out nq
          generalize wr.drewN nq = W1 at hB3 ⊢
          clear hB2 hBw hg0 hg1 hg2 hq0 hq1 hc1 hc2 hGl hTl
          go_loopw [8, 9, 62] (fun _ _ j w2 => ∃ q : Nat, q ≤ row.length ∧ j = .int .i64 q ∧ Below w1.heap.size w1 w2 ∧ Hid (∀ c, c < q → Tb.right t l.length acts.length (row.getD c (0, 0)) c = true)) (fun _ _ j _ => row.length - (intOf j).toNat)
          case atStart => exact ⟨0, by omega, rfl, hB3, Lib.hid (fun j hj => absurd hj (by omega))⟩
          case round =>
            clear hB3
            obtain ⟨q, hq, rfl, hB3, hrok⟩ := hrel
            have hBw3 := hB1.trans (hB3.mono hB1.size)
            have hG3 := HG1.out.below hB3 HG1.out.lt
            have hT3 := HT1.out.below hB3 HT1.out.lt
            have hGl3 := hG3.lt; have hTl3 := hT3.lt
            obtain ⟨hg0, hg1, hg2⟩ := hG3
            obtain ⟨hq0, hq1⟩ := hT3
            by_cases hql : q < row.length
            · obtain ⟨rfl, hbr, _⟩ := R3.out (by omega)
              have hx1 := bkeep hBw3 (R4.out q hql).1
              have hx2 := bkeep hBw3 (R4.out q hql).2.1
              have HRB : Hid (Tb.right t l.length acts.length (row.getD q (0, 0)) q = false → Tb.err t n l.length acts gts = 1) := Lib.hid (fun h => HBAD.out (fun g => by have := g.2.2.1 q hql; rw [h] at this; cases this))
              have HRO : Hid (Tb.right t l.length acts.length (row.getD q (0, 0)) q = true → ∀ c, c < q + 1 → Tb.right t l.length acts.length (row.getD c (0, 0)) c = true) := Lib.hid (fun h c hc => by
                rcases Nat.lt_succ_iff_lt_or_eq.1 hc with hc | rfl
                · exact hrok.out c hc
                · exact h)
              generalize row.getD q (0, 0) = y at hx1 hx2 HRB HRO
              obtain ⟨y1, y2⟩ := y
              simp only at hx1 hx2
              cases hry : Tb.right t l.length acts.length (y1, y2) q
              · have HRY := Lib.hid hry
                have HE := Lib.hid (HRB.out hry)
                clear hry
                go_wp2_with (go_at_call 150; refine (lrRight_any t n l.length acts.length aop _ cp ca _ y1 y2 q _ ht0 ht1 hll (by omega)).mono ?_; rintro e w5 ⟨rfl, hb5⟩; rw [HRY.out])
                go_ret
                exact ⟨by rw [HE.out]; rfl, (hBw3.alloc hBw3.size _).trans (hb5.mono (hBw3.alloc hBw3.size _).size)⟩
              · have HRY := Lib.hid hry
                have HX := Lib.hid (HRO.out hry)
                clear hry
                go_wp2_with (go_at_call 150; refine (lrRight_any t n l.length acts.length aop _ cp ca _ y1 y2 q _ ht0 ht1 hll (by omega)).mono ?_; rintro e w5 ⟨rfl, hb5⟩; rw [HRY.out])
                go_roundw
                case rel => exact ⟨q + 1, by omega, by go_num, (hB3.alloc hB3.size _).trans (hb5.mono (hB3.alloc hB3.size _).size), HX⟩
                case measure => simp [intOf]; omega
            · obtain rfl : q = row.length := by omega
              clear hql hq
              have hc2 := bkeep hBw3 HN2.out
              go_wp2
              go_loopw [11, 80] (fun _ j w2 => ∃ q : Nat, q ≤ grow.length ∧ j = .int .i64 q ∧ Below w1.heap.size w1 w2 ∧ Hid (∀ c, c < q → -1 ≤ grow.getD c 0 ∧ grow.getD c 0 < acts.length)) (fun _ j _ => grow.length - (intOf j).toNat)
              case atStart => exact ⟨0, by omega, rfl, hB3, Lib.hid (fun j hj => absurd hj (by omega))⟩
              case round =>
                clear hB3 hBw3 hg0 hg1 hg2 hq0 hq1 hc2 hGl3 hTl3
                obtain ⟨q, hq, rfl, hB3, hgok⟩ := hrel
                have hBw3 := hB1.trans (hB3.mono hB1.size)
                by_cases hql : q < grow.length
                · obtain ⟨rfl, hbr, _⟩ := Z3.out (by omega)
                  have hx1 := bkeep hBw3 (Z4.out q hql).1
                  have hxw := wf64 (Z4.out q hql).2.2
                  have HRB : Hid (¬ (-1 ≤ grow.getD q 0 ∧ grow.getD q 0 < acts.length) → Tb.err t n l.length acts gts = 1) := Lib.hid (fun h => HBAD.out (fun g => h (g.2.2.2 q hql)))
                  have HRO : Hid ((-1 ≤ grow.getD q 0 ∧ grow.getD q 0 < acts.length) → ∀ c, c < q + 1 → -1 ≤ grow.getD c 0 ∧ grow.getD c 0 < acts.length) := Lib.hid (fun h c hc => by
                    rcases Nat.lt_succ_iff_lt_or_eq.1 hc with hc | rfl
                    · exact hgok.out c hc
                    · exact h)
                  generalize grow.getD q 0 = y at hx1 HRB HRO hxw
                  by_cases y1 : y < -1
                  · have HE := Lib.hid (HRB.out (by omega))
                    go_wp2
                    go_ret
                    exact ⟨by rw [HE.out]; rfl, hBw3⟩
                  by_cases y2 : (acts.length : Int) ≤ y
                  · have HE := Lib.hid (HRB.out (by omega))
                    go_wp2
                    go_ret
                    exact ⟨by rw [HE.out]; rfl, hBw3⟩
                  have HX := Lib.hid (HRO.out (by omega))
                  go_wp2
                  go_roundw
                  case rel => exact ⟨q + 1, by omega, by go_num, hB3, HX⟩
                  case measure => simp [intOf]; omega
                · obtain rfl : q = grow.length := by omega
                  have HX := Lib.hid (HOK.out ⟨HL1.out, HL2.out, hrok.out, hgok.out⟩)
                  go_wp2
                  go_roundw
                  case rel => exact ⟨k + 1, by omega, by go_num, hB3, HX⟩
                  case measure => simp [intOf]; omega
        · have hl2b : ((grow.length : Int) != n) = true := by rw [bne_iff_ne]; exact hl2
          have HE := Lib.hid (HBAD.out (fun g => hl2 g.2.1))
          clear hl2 hl1
          go_wp2
          go_quiet (fail)
          go_wp2
          go_ret
          exact ⟨by rw [HE.out]; rfl, below_drewN hBw _⟩
      · have hl1b : ((row.length : Int) != t + 1) = true := by rw [bne_iff_ne]; exact hl1
        have HE := Lib.hid (HBAD.out (fun g => hl1 g.1))
        clear hl1
        go_wp2
        go_quiet (fail)
        go_wp2
        go_ret
        exact ⟨by rw [HE.out]; rfl, below_drewN hBw _⟩
    · obtain rfl : k = acts.length := by omega
      have HE := Lib.hid (Tb.err_ok (t := t) (n := n) (np := l.length) h200 HNOT.out hok.out)
      go_wp2
      go_ret
      exact ⟨by rw [HE.out]; rfl, hBw⟩
end Go.Proofs.Ytahoapgmiecphaa

/-
  The states of a stack within a table: the closure of build.check, slices.ContainsFunc over it.
-/
namespace Go.Proofs.Ytahoapgmiecphaa
set_option linter.unusedVariables false
open Go.ChangeShapes Go.WideShapes Go.ChangeAt Go.RowKit

namespace Bd
/-- A state that is none of the m. -/
def out (m : Nat) (x : Int) : Bool := decide (x < 0) || decide ((m : Int) ≤ x)
theorem out_yes {m : Nat} {x : Int} (h : x < 0 ∨ (m : Int) ≤ x) : out m x = true := by
  rcases h with h | h <;> simp [out, h]
theorem out_no {m : Nat} {x : Int} (h : 0 ≤ x ∧ x < m) : out m x = false := by
  simp only [out, Bool.or_eq_false_iff, decide_eq_false_iff_not]; omega
theorem out_iff {m : Nat} {x : Int} : out m x = false ↔ 0 ≤ x ∧ x < m := by
  simp only [out, Bool.or_eq_false_iff, decide_eq_false_iff_not]; omega
end Bd
attribute [irreducible] Bd.out

set_option maxRecDepth 100000 in
theorem bdOut_any (m : Nat) (aoa : Option Addr) (ca : Nat) (vg : Value) (T : Nat) (x : Int) (w : World) (hT : TbBox w T (.slice aoa m ca) vg) :
    Calls Try.prog 229 #[.int .i64 x, .pointer (some ⟨T, 0, none⟩)] w fun e w' => e = .returned (.bool (Bd.out m x)) ∧ Below w.heap.size w w' := by
  have hlt := hT.lt
  obtain ⟨g0, g1⟩ := hT
  by_cases h0 : x < 0
  · have HE := Lib.hid (Bd.out_yes (m := m) (.inl h0))
    go_enter Try.func229, Try.ntmps229
    go_wp2
    go_ret
    exact ⟨by rw [HE.out]; rfl, Below.refl _ _⟩
  by_cases h1 : (m : Int) ≤ x
  · have HE := Lib.hid (Bd.out_yes (m := m) (.inr h1))
    go_enter Try.func229, Try.ntmps229
    go_wp2
    go_ret
    exact ⟨by rw [HE.out]; rfl, Below.refl _ _⟩
  have HE := Lib.hid (Bd.out_no (m := m) (x := x) (by omega))
  go_enter Try.func229, Try.ntmps229
  go_wp2
  go_ret
  exact ⟨by rw [HE.out]; rfl, Below.refl _ _⟩

set_option maxRecDepth 100000 in
theorem bdIndex_any (m : Nat) (aoa : Option Addr) (ca : Nat) (vg : Value) (T : Nat) (l : List Int) (v : Value) (w : World) (F : Nat → Prop) (h : ((Enc.int .i64).sl 8).R F w [v] l) (hT : TbBox w T (.slice aoa m ca) vg) :
    Calls Try.prog 231 #[v, .func (.func 229) #[] #[.pointer (some ⟨T, 0, none⟩)]] w fun e w' => (∃ r : Int, e = .returned (.int .i64 r) ∧ decide (0 ≤ r) = l.any (Bd.out m)) ∧ Below w.heap.size w w' := by
  obtain ⟨ao, b, off, cap, rfl, hl, n3, n4⟩ := Enc.sl1 (En := Enc.int .i64) (Value.int .i64) (fun _ _ _ h => h.1) rfl 0 h
  clear h
  have hl2 : (l.length : Int) ≤ 140737488355328 := by omega
  have N3 := Lib.hid n3; have N4 := Lib.hid n4; have HT := Lib.hid hT
  have hTl := hT.lt
  clear n3 n4 hl hT
  go_enter Try.func231, Try.ntmps231
  go_wp2
  go_loopw [5, 8] (fun _ i wr => ∃ k : Nat, k ≤ l.length ∧ i = .int .i64 k ∧ Below w.heap.size w wr ∧ Hid (∀ j, j < k → Bd.out m (l.getD j 0) = false)) (fun _ i _ => l.length - (intOf i).toNat)
  case atStart => exact ⟨0, by omega, rfl, Below.refl _ _, Lib.hid (fun j hj => absurd hj (by omega))⟩
  case round =>
    obtain ⟨k, hk, rfl, hB, hq⟩ := hrel
    by_cases hlt : k < l.length
    · obtain ⟨rfl, _, _⟩ := N3.out (by omega)
      have hc1 := bkeep hB (N4.out k hlt).1
      obtain ⟨x, hx⟩ : ∃ x, x = l.getD k 0 := ⟨_, rfl⟩
      rw [← hx] at hc1
      have HXE := Lib.hid hx; clear hx
      have HGH := Lib.hid (HT.out.below hB hTl)
      cases hbk : Bd.out m x
      · have HBK := Lib.hid hbk; clear hbk
        go_wp2_with (go_at_call 229; refine (bdOut_any m aoa ca vg T x _ HGH.out).mono ?_; rintro e w9 ⟨rfl, hb9⟩; rw [HBK.out])
        go_roundw
        case rel =>
          refine ⟨k + 1, by omega, by go_num, hB.trans (hb9.mono hB.size), Lib.hid (fun j hj => ?_)⟩
          rcases Nat.lt_succ_iff_lt_or_eq.1 hj with hj | rfl
          · exact hq.out j hj
          · rw [← HXE.out, HBK.out]
        case measure => simp [intOf]; omega
      · have HBK := Lib.hid hbk; clear hbk
        go_wp2_with (go_at_call 229; refine (bdOut_any m aoa ca vg T x _ HGH.out).mono ?_; rintro e w9 ⟨rfl, hb9⟩; rw [HBK.out])
        go_ret
        exact ⟨⟨k, rfl, by rw [any_some' (d := 0) hlt (by rw [← HXE.out, HBK.out])]; simp⟩, hB.trans (hb9.mono hB.size)⟩
    · obtain rfl : k = l.length := by omega
      go_wp2
      go_ret
      exact ⟨⟨-1, rfl, by rw [any_none' (d := 0) hq.out]; rfl⟩, hB⟩

set_option maxRecDepth 100000 in
theorem bdIn_any (m : Nat) (aoa : Option Addr) (ca : Nat) (vg : Value) (T : Nat) (l : List Int) (v : Value) (w : World) (F : Nat → Prop) (h : ((Enc.int .i64).sl 8).R F w [v] l) (hT : TbBox w T (.slice aoa m ca) vg) :
    Calls Try.prog 228 #[v, .func (.func 229) #[] #[.pointer (some ⟨T, 0, none⟩)]] w fun e w' => e = .returned (.bool (l.any (Bd.out m))) ∧ Below w.heap.size w w' := by
  go_enter Try.func228, Try.ntmps228
  go_wp2_with (go_at_call 231; refine (bdIndex_any m aoa ca vg T l v _ F h hT).mono ?_; rintro e w9 ⟨⟨r, rfl, hr⟩, hb9⟩)
  go_ret
  exact ⟨by rw [← hr]; simp, hb9⟩
end Go.Proofs.Ytahoapgmiecphaa
