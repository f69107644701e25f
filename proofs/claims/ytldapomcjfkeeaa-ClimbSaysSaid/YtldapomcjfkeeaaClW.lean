/-
  The work of one who climbs: act, pop, closes, open of package climb, each once.
-/
import Derived.Test.YtldapomcjfkeeaaClIn
import Derived.Test.YtldapomcjfkeeaaShrink
import Derived.Test.YtldapomcjfkeeaaSepAt4
import Derived.Test.YtldapomcjfkeeaaPairSet
import Derived.Deep.RegionLaw
namespace Go.Proofs.Ytldapomcjfkeeaa
set_option linter.unusedVariables false
open Go.ChangeShapes Go.WideShapes Go.ChangeAt Go.RowKit

theorem evtE3 : ET Try.prog 75 81 2 16 := ET.mk' Try.underlying75 (z := .agg #[.int .i64 0, .int .i64 0]) (by kernel_rfl) rfl (by decide)
theorem todoE : ET Try.prog 119 125 4 32 := ET.mk' Try.underlying119 (z := todoV Cl.z) (by kernel_rfl) rfl (by decide)
theorem pair_one3 (p : Int × Int) : ∀ q ∈ (pairV p).cells.toList, q.oneCell' = true := by
  intro q hq; simp [pairV, Value.cells] at hq; rcases hq with h | h <;> subst h <;> rfl
theorem todo_one (p : Cl.T) : ∀ q ∈ (todoV p).cells.toList, q.oneCell' = true := by
  intro q hq; simp [todoV, Value.cells] at hq; rcases hq with h | h | h | h <;> subst h <;> rfl
theorem todo_size (l : List Cl.T) : ∀ u ∈ l.map todoV, u.cells.size = 4 := by
  intro u hu; obtain ⟨x, _, rfl⟩ := List.mem_map.1 hu; rfl

namespace Cl
/-- The work of a token, in block W: what is ahead (the next one last), what was told. -/
def Wk (w0 w : World) (W : Nat) (t n : Int) (vp : Value) (td : List T) (out : List (Int × Int)) (μ : List Asrt) : Prop :=
  ∃ vt vo, St w0 w (aCel W 228 #[.int .i64 t, .int .i64 n, vp, vt, vo, .int .i64 out.length] :: aOwn 125 4 vt (td.map todoV) :: aOwn 81 2 vo (out.map pairV) :: μ)
section
variable {w0 w w' : World} {W : Nat} {t n : Int} {vp : Value} {td : List T} {out : List (Int × Int)} {μ : List Asrt}
theorem Wk.call (h : Wk w0 w W t n vp td out μ) (hb : Below w.heap.size w w') : Wk w0 w' W t n vp td out μ := by
  obtain ⟨vt, vo, h⟩ := h; exact ⟨vt, vo, h.call hb⟩
theorem Wk.drew (h : Wk w0 w W t n vp td out μ) : Wk w0 w.drew W t n vp td out μ := by
  obtain ⟨vt, vo, h⟩ := h; exact ⟨vt, vo, h.drew⟩
theorem Wk.bel (h : Wk w0 w W t n vp td out μ) : Below w0.heap.size w0 w := by obtain ⟨vt, vo, h⟩ := h; exact h.bel
end
end Cl

set_option maxRecDepth 100000 in
theorem clAct_any (w0 : World) (W : Nat) (t n : Int) (vp : Value) (td : List Cl.T) (out : List (Int × Int)) (μ : List Asrt) (kind nn : Int) (w : World) (h : Cl.Wk w0 w W t n vp td out μ) (hl : out.length ≤ 3000) :
    Calls Try.prog 132 #[.pointer (some ⟨W, 0, none⟩), .int .i64 kind, .int .i64 nn] w fun e w' => e = .returned (.bool (decide (out.length < 2000))) ∧ Cl.Wk w0 w' W t n vp td (out ++ [(kind, nn)]) μ := by
  obtain ⟨vt, vo, hst⟩ := h
  have x4 := hst.celAt (i := 4) rfl; have x5 := hst.celAt (i := 5) rfl
  have f4 := hst.celFree 4; have f5 := hst.celFree 5
  have hstA := (hst.setCel 5 (.int .i64 ((out.length : Int) + 1))).get3
  clear hst
  go_enter Try.func132, Try.ntmps132
  go_wp2_with (at_builtin; refine St.app1n evtE3 rfl (.tmp 18) (.tmp 22) rfl rfl hstA (pairV (kind, nn)) rfl _ 1 rfl (by simp) rfl (pair_one3 _) (by rw [List.length_map]; unfold maxLen; omega) (by rw [List.length_map]; omega) ?_; intro g6 n6 c6 w6 hst6; have y4 := (hst6.nth 1 rfl).celAt (i := 4) rfl; have y5 := (hst6.nth 1 rfl).celAt (i := 5) rfl; have yf4 := (hst6.nth 1 rfl).celFree 4)
  have hfin := ((hst6.get2.setCel 4 (.slice (some ⟨g6, 0, none⟩) n6 c6)).get3).get2
  go_ret
  refine ⟨congrArg (fun b => Ending.returned (.bool b)) (decide_eq_decide.2 (by omega)), vt, .slice (some ⟨g6, 0, none⟩) n6 c6, ?_⟩
  rw [List.length_append, List.length_singleton, List.map_append]
  exact hfin

/-- A cell of a slice of its own whose elements have several cells each. -/
theorem St.cellsN {α : Type} {w0 w : World} {μ : List Asrt} {e : TypeId} {size g n cap : Nat} {l : List α} {f : α → Value} (h : St w0 w (aOwn e size (.slice (some ⟨g, 0, none⟩) n cap) (l.map f) :: μ)) (hsz : ∀ x, (f x).cells.size = size) (i : Nat) (hi : i < l.length) (d : α) (j : Nat) (hj : j < size) (q : Value)
    (hq : (f (l.getD i d)).cells.toList[j]? = some q) : w.cell? ⟨g, i * size + j, none⟩ = some q := by
  have h1 : Own w 0 e size (.slice (some ⟨g, 0, none⟩) n cap) (l.map f) := h.ok _ (.head _)
  have hs2 : ∀ u ∈ l.map f, u.cells.size = size := by
    intro u hu; obtain ⟨y, hy, rfl⟩ := List.mem_map.1 hu; exact hsz y
  unfold Own at h1
  rcases h1.2 with ⟨h2, _⟩ | ⟨g', cap', cur, hv, hB, hg, hn, hc, hcs, htk⟩
  · cases h2
  · simp only [Value.slice.injEq, Option.some.injEq, Addr.mk.injEq] at hv
    obtain ⟨⟨rfl, _⟩, rfl, rfl⟩ := hv
    have h3 := cellsOf_get hs2 i (by rw [List.length_map]; exact hi) j hj
    rw [List.getElem_map, show l[i] = l.getD i d by simp [List.getD, List.getElem?_eq_getElem hi], hq, ← htk] at h3
    have hlt : i * size + j < (l.map f).length * size := by
      rw [List.length_map]
      have : (i + 1) * size ≤ l.length * size := Nat.mul_le_mul_right _ hi
      rw [Nat.add_mul] at this; omega
    rw [List.getElem?_take, if_pos hlt] at h3
    simp only [World.cell?, hg]
    simpa using h3
theorem St.cellTodo {w0 w : World} {μ : List Asrt} {e : TypeId} {g n cap : Nat} {l : List Cl.T} (h : St w0 w (aOwn e 4 (.slice (some ⟨g, 0, none⟩) n cap) (l.map todoV) :: μ)) (i : Nat) (hi : i < l.length) :
    w.cell? ⟨g, i * 4, none⟩ = some (.bool (l.getD i Cl.z).1) ∧ w.cell? ⟨g, i * 4 + 1, none⟩ = some (.int .i64 (l.getD i Cl.z).2.1) ∧ w.cell? ⟨g, i * 4 + 2, none⟩ = some (.int .i64 (l.getD i Cl.z).2.2.1) ∧ w.cell? ⟨g, i * 4 + 3, none⟩ = some (.int .i64 (l.getD i Cl.z).2.2.2) :=
  ⟨h.cellsN (fun _ => rfl) i hi Cl.z 0 (by decide) _ rfl, h.cellsN (fun _ => rfl) i hi Cl.z 1 (by decide) _ rfl, h.cellsN (fun _ => rfl) i hi Cl.z 2 (by decide) _ rfl, h.cellsN (fun _ => rfl) i hi Cl.z 3 (by decide) _ rfl⟩
theorem Own.capLe {w : World} {B : Nat} {e : TypeId} {size : Nat} {ao : Option Addr} {n cap : Nat} {xs : List Value} (h : Own w B e size (.slice ao n cap) xs) : xs.length ≤ cap ∧ n = xs.length := by
  unfold Own at h
  rcases h.2 with ⟨h2, h3⟩ | ⟨g', cap', cur, hv, hB, hg, hn, hc, hcs, htk⟩
  · cases h2; omega
  · cases hv; exact ⟨hn, rfl⟩
theorem Cl.snoc_get (ys : List Cl.T) (x : Cl.T) : (ys ++ [x]).getD ys.length Cl.z = x := by simp [List.getD]

set_option maxRecDepth 100000 in
theorem clPop_any (w0 : World) (W : Nat) (t n : Int) (vp : Value) (ys : List Cl.T) (x : Cl.T) (out : List (Int × Int)) (μ : List Asrt) (w : World) (h : Cl.Wk w0 w W t n vp (ys ++ [x]) out μ) (hl : ys.length ≤ 1000) :
    Calls Try.prog 131 #[.pointer (some ⟨W, 0, none⟩)] w fun e w' => e = .returned (todoV x) ∧ Cl.Wk w0 w' W t n vp ys out μ := by
  obtain ⟨vt, vo, hst⟩ := h
  rcases hst.get2.own.shape with ⟨_, he⟩ | ⟨g, cap, rfl, hg1, hg2⟩
  · simp at he
  have hlen : ((ys ++ [x]).map todoV).length = ys.length + 1 := by simp
  rw [hlen] at hst
  have x3 := hst.celAt (i := 3) rfl
  have f3 := hst.celFree 3
  obtain ⟨c0, c1, c2, c3⟩ := hst.get2.cellTodo ys.length (by simp)
  rw [Cl.snoc_get] at c0 c1 c2 c3
  have hlW := World.block_lt_of_cell? _ _ x3
  have hst2 := ((hst.alloc #[.bool false, .int .i64 0, .int .i64 0, .int .i64 0] 125).alloc #[.bool x.1, .int .i64 x.2.1, .int .i64 x.2.2.1, .int .i64 x.2.2.2] 125).drew
  simp only [World.size_alloc] at hst2
  clear hst
  go_enter Try.func131, Try.ntmps131
  go_wp2
  go_region
  clear x3 f3 c0 c1 c2 c3 hlW
  generalize ((w.alloc (.cells #[.bool false, .int .i64 0, .int .i64 0, .int .i64 0] 125)).alloc (.cells #[.bool x.1, .int .i64 x.2.1, .int .i64 x.2.2.1, .int .i64 x.2.2.2] 125)).drew = W2 at hst2 ⊢
  have hcap : (ys.length : Int) ≤ cap := by
    have := (hst2.get4.own.capLe).1
    simp at this; omega
  have hwr : IntKind.i64.wrap (ys.length : Int) = (ys.length : Int) := IntWalk.i64_in _ ⟨by omega, by omega⟩
  have h0 : (0 : Int) ≤ (ys.length : Int) := by omega
  have x3 := (hst2.nth 2 rfl).celAt (i := 3) rfl
  have f3 := (hst2.nth 2 rfl).celFree 3
  go_wp2
  go_region
  clear hcap hwr h0 x3 f3
  have hst3 := ((hst2.get4.take (todo_size _) ys.length (by simp)).get4.setCel 3 (.slice (some ⟨g, 0, none⟩) ys.length cap)).drew
  rw [List.map_append, List.take_left' (by simp)] at hst3
  clear hst2
  generalize (W2.setCell ⟨W, 3, none⟩ (.slice (some ⟨g, 0, none⟩) ys.length cap)).drew = W3 at hst3 ⊢
  obtain ⟨y0, y1, y2, y3⟩ := hst3.at4 2 rfl
  obtain ⟨z0, z1, z2, z3, zf0, zf1, zf2, zf3⟩ := hst3.get4.cel4
  have hst4 := (((hst3.get4.setCel 0 (.bool x.1)).setCel 1 (.int .i64 x.2.1)).setCel 2 (.int .i64 x.2.2.1)).setCel 3 (.int .i64 x.2.2.2)
  clear hst3
  go_wp2
  obtain ⟨q0, q1, q2, q3⟩ := hst4.at4 0 rfl
  refine bodyPost_ret (v := todoV x) ?_ rfl ?_
  · simp [results, Try.results131, go_sem, q0, q1, q2, q3, todoV]
  · exact ⟨rfl, .slice (some ⟨g, 0, none⟩) ys.length cap, vo, hst4.drop.get3.drop⟩

theorem todo_field1 (a : Bool) (b c d : Int) (w : World) : (Instr.field 125 (.agg #[.bool a, .int .i64 b, .int .i64 c, .int .i64 d]) 1).run Try.prog w = .ok (.int .i64 b) w := by kernel_rfl
namespace Cl
def tdLen (W : Nat) (wr : World) : Nat := match wr.cell? ⟨W, 3, none⟩ with | some (.slice _ n _) => n | _ => 0
theorem tdLen_of {W : Nat} {wr : World} {a : Option Addr} {n c : Nat} (h : wr.cell? ⟨W, 3, none⟩ = some (.slice a n c)) : tdLen W wr = n := by unfold tdLen; rw [h]
theorem Wk.tdLen {w0 w : World} {W : Nat} {t n : Int} {vp : Value} {td : List T} {out : List (Int × Int)} {μ : List Asrt} (h : Wk w0 w W t n vp td out μ) : Cl.tdLen W w = td.length := by
  obtain ⟨vt, vo, hst⟩ := h
  obtain ⟨a, c, rfl⟩ := hst.get2.own.isLen
  rw [Cl.tdLen_of (hst.celAt (i := 3) rfl), List.length_map]
attribute [irreducible] tdLen
def CloRel (X : Option (List T × List (Int × Int))) (w0 : World) (W : Nat) (t n : Int) (vp : Value) (μ : List Asrt) (wr : World) : Prop :=
  ∃ td out, Wk w0 wr W t n vp td out μ ∧ td.length ≤ 1000 ∧ out.length ≤ 2000 ∧ Hid (clo td.reverse out = X)
def CloRet (X : Option (List T × List (Int × Int))) (w0 : World) (W : Nat) (t n : Int) (vp : Value) (μ : List Asrt) (e : Ending) (w' : World) : Prop :=
  e = .returned (.bool X.isSome) ∧ ∃ td' out', Wk w0 w' W t n vp td' out' μ ∧ ∀ x, X = some x → td' = x.1.reverse ∧ out' = x.2
theorem clo_nil {o : List (Int × Int)} : clo [].reverse o = some ([], o) := rfl
theorem clo_stop {ys : List T} {x : T} {o : List (Int × Int)} (h : x.1 = false) : clo (ys ++ [x]).reverse o = some (x :: ys.reverse, o) := by
  rw [List.reverse_append]; show clo (x :: ys.reverse) o = _; rw [clo, if_neg (by simp [h])]
theorem clo_many {ys : List T} {x : T} {o : List (Int × Int)} (h : x.1 = true) (h2 : 2000 ≤ o.length) : clo (ys ++ [x]).reverse o = none := by
  rw [List.reverse_append]; show clo (x :: ys.reverse) o = _; rw [clo, if_pos h, if_pos h2]
theorem clo_step {ys : List T} {x : T} {o : List (Int × Int)} (h : x.1 = true) (h2 : ¬ 2000 ≤ o.length) : clo (ys ++ [x]).reverse o = clo ys.reverse (o ++ [(3, x.2.1)]) := by
  rw [List.reverse_append]; show clo (x :: ys.reverse) o = _; rw [clo, if_pos h, if_neg h2]
end Cl

set_option maxRecDepth 100000 in
theorem clCloses_any (w0 : World) (W : Nat) (t n : Int) (vp : Value) (td : List Cl.T) (out : List (Int × Int)) (μ : List Asrt) (w : World) (h : Cl.Wk w0 w W t n vp td out μ) (hl : td.length ≤ 1000) (ho : out.length ≤ 2000) :
    Calls Try.prog 133 #[.pointer (some ⟨W, 0, none⟩)] w (Cl.CloRet (Cl.clo td.reverse out) w0 W t n vp μ) := by
  generalize hX : Cl.clo td.reverse out = X
  have HX := Lib.hid hX
  clear hX
  go_enter Try.func133, Try.ntmps133
  go_wp2
  go_loopw [2] (fun _ wr => Cl.CloRel X w0 W t n vp μ wr) (fun _ wr => Cl.tdLen W wr)
  case atStart => exact ⟨td, out, h, hl, ho, HX⟩
  case round =>
    clear h hl ho HX td out
    obtain ⟨td, out, h, hl, ho, HX⟩ := hrel
    have hlen := h.tdLen
    rcases List.eq_nil_or_concat td with rfl | ⟨ys, x, rfl⟩
    · have hx := HX.out
      rw [Cl.clo_nil] at hx
      subst hx
      have H := Lib.hid h
      obtain ⟨vt, vo, hst⟩ := h
      rcases hst.get2.own.shape with ⟨rfl, _⟩ | ⟨g, cap, rfl, _, _⟩
      all_goals
        have x3 := hst.celAt (i := 3) rfl
        clear hst hlen
        go_wp2
        go_region
        go_wp2
        go_ret
        exact ⟨rfl, [], out, H.out.drew, fun x hx => by cases hx; exact ⟨rfl, rfl⟩⟩
    · simp only [List.concat_eq_append] at h hl HX hlen
      rw [List.length_append, List.length_singleton] at hl hlen
      have H := Lib.hid h
      have HL := Lib.hid hlen
      obtain ⟨vt, vo, hst⟩ := h
      rcases hst.get2.own.shape with ⟨_, he⟩ | ⟨g, cap, rfl, hg1, hg2⟩
      · simp at he
      rw [List.length_map, List.length_append, List.length_singleton] at hst
      have x3 := hst.celAt (i := 3) rfl
      obtain ⟨c0, -, -, -⟩ := hst.get2.cellTodo ys.length (by simp)
      rw [Cl.snoc_get] at c0
      have hpos : (0 : Int) < (ys.length : Int) + 1 := by omega
      have hwr : IntKind.i64.wrap (ys.length : Int) = (ys.length : Int) := IntWalk.i64_in _ ⟨by omega, by omega⟩
      have h0 : (0 : Int) ≤ (ys.length : Int) := by omega
      clear hst hlen hg1 hg2
      cases hx : x.1
      · rw [hx] at c0
        have hX := HX.out
        rw [Cl.clo_stop hx] at hX
        subst hX
        clear hx HX
        go_wp2
        go_region
        go_wp2
        go_ret
        exact ⟨rfl, ys ++ [x], out, H.out.drew, fun x hx => by cases hx; exact ⟨by simp, rfl⟩⟩
      · rw [hx] at c0
        have HX1 := Lib.hid hx
        clear hx
        go_wp2
        go_region
        clear x3 c0 hpos hwr h0
        have H2 := Lib.hid H.out.drew
        generalize wr.drew = W2 at H2 ⊢
        go_wp2_with (fail)
        go_at_call 131
        refine (clPop_any w0 W t n vp ys x out μ _ H2.out (by omega)).mono ?_
        rintro e w1 ⟨rfl, H3⟩
        replace H3 := Lib.hid H3
        unfold todoV
        have hfd := todo_field1 x.1 x.2.1 x.2.2.1 x.2.2.2
        by_cases h4 : 2000 ≤ out.length
        · have hX := HX.out
          rw [Cl.clo_many HX1.out h4] at hX
          have hd : decide (out.length < 2000) = false := decide_eq_false (by omega)
          subst hX
          clear HX
          go_wp2_with (fail)
          go_at_call 132
          refine (clAct_any w0 W t n vp ys out μ 3 x.2.1 _ H3.out (by omega)).mono ?_
          rw [hd]
          rintro e w2 ⟨rfl, H4⟩
          replace H4 := Lib.hid H4
          go_wp2
          go_ret
          exact ⟨rfl, ys, out ++ [(3, x.2.1)], H4.out, fun x hx => by cases hx⟩
        · have hX := HX.out
          rw [Cl.clo_step HX1.out h4] at hX
          have hd : decide (out.length < 2000) = true := decide_eq_true (by omega)
          have HX2 := Lib.hid hX
          clear HX hX
          go_wp2_with (fail)
          go_at_call 132
          refine (clAct_any w0 W t n vp ys out μ 3 x.2.1 _ H3.out (by omega)).mono ?_
          rw [hd]
          rintro e w2 ⟨rfl, H4⟩
          have hlen := H4.tdLen
          replace H4 := Lib.hid H4
          have HL4 := Lib.hid hlen
          clear hlen hd
          go_wp2
          go_roundw
          case rel => exact ⟨ys, out ++ [(3, x.2.1)], H4.out, by omega, by rw [List.length_append, List.length_singleton]; omega, HX2⟩
          case measure => rw [HL4.out, HL.out]; omega
end Go.Proofs.Ytldapomcjfkeeaa
