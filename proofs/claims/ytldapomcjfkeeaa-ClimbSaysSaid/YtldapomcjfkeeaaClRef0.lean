/-
  What Climb of the reference needs: its loop as plain steps; what is ahead as it lies in memory; the closure over.
-/
import Derived.Test.YtldapomcjfkeeaaClRt
import Derived.Test.YtldapomcjfkeeaaSepAll
namespace Go.Proofs.Ytldapomcjfkeeaa
set_option linter.unusedVariables false
open Go.ChangeShapes Go.WideShapes Go.ChangeAt Go.RowKit

namespace Cl
section
variable {ps : List (Int × List (Int × Int))} {rows : List (List Int)} {c f : Nat} {last had : Bool} {seen : Int} {a r : List T} {x : T} {o : List (Int × Int)} {q : Int}
theorem go_hadNil (h : ¬ 2000 < o.length) : go ps rows c last seen (f + 1) true [] o = (0, [], o) := by
  rw [go, if_neg (by simp; omega)]; rfl
theorem go_close (h : ¬ (2000 < o.length ∨ 60 < (x :: r).length)) (hx : x.1 = true) : go ps rows c last seen (f + 1) had (x :: r) o = go ps rows c last seen f had r (o ++ [(3, x.2.1)]) := by
  rw [go, if_neg h]; simp only [hx, if_true]
theorem go_had (h : ¬ (2000 < o.length ∨ 60 < (x :: r).length)) (hx : x.1 = false) : go ps rows c last seen (f + 1) true (x :: r) o = (0, x :: r, o) := by
  rw [go, if_neg h]; simp only [hx, Bool.false_eq_true, if_false, if_true]
theorem go_lastNil (h : ¬ 2000 < o.length) : go ps rows c true seen (f + 1) false [] o = (0, [], o) := by
  rw [go, if_neg (by simp; omega)]; rfl
theorem go_nil (h : ¬ 2000 < o.length) : go ps rows c false seen (f + 1) false [] o = (13, [], []) := by
  rw [go, if_neg (by simp; omega)]; rfl
theorem go_other (h : ¬ (2000 < o.length ∨ 60 < (x :: r).length)) (hx : x.1 = false) (hk : x.2.2.1 = 1) (hn : x.2.2.2 ≠ c) : go ps rows c last seen (f + 1) false (x :: r) o = (13, [], []) := by
  rw [go, if_neg h]; simp only [hx, Bool.false_eq_true, if_false, hk, if_true]; rw [if_pos hn]
theorem go_tok (h : ¬ (2000 < o.length ∨ 60 < (x :: r).length)) (hx : x.1 = false) (hk : x.2.2.1 = 1) (hn : x.2.2.2 = c) : go ps rows c last seen (f + 1) false (x :: r) o = go ps rows c last seen f true r (o ++ [(2, seen)]) := by
  rw [go, if_neg h]; simp only [hx, Bool.false_eq_true, if_false, hk, if_true]; rw [if_neg (by omega)]
theorem go_bad (h : ¬ (2000 < o.length ∨ 60 < (x :: r).length)) (hx : x.1 = false) (hk : x.2.2.1 ≠ 1) (hq : (rows.getD x.2.2.2.toNat []).getD c 0 = q) (h2 : q < 0) : go ps rows c last seen (f + 1) false (x :: r) o = (13, [], []) := by
  rw [go_kid h hx hk, hq, if_pos h2]
theorem go_put (h : ¬ (2000 < o.length ∨ 60 < (x :: r).length)) (hx : x.1 = false) (hk : x.2.2.1 ≠ 1) (hq : (rows.getD x.2.2.2.toNat []).getD c 0 = q) (h2 : ¬ q < 0) : go ps rows c last seen (f + 1) false (x :: r) o = go ps rows c last seen f false (put ps q.toNat r) (o ++ [(1, q)]) := by
  rw [go_kid h hx hk, hq, if_neg h2]
end
end Cl

def Enc.tdo : Enc Cl.T where
  size := 4
  R := fun _ _ cs x => cs = (todoV x).cells.toList
  len := fun h => by rw [h]; rfl
  mono := fun h _ _ => h
theorem slTdo {bytes : Nat} {F : Nat → Prop} {w : World} {v : Value} {l : List Cl.T} (h : (Enc.tdo.sl bytes).R F w [v] l) :
    ∃ (ao : Option Addr) (b off cap : Nat), v = .slice ao l.length cap ∧ (l.length : Int) * bytes ≤ 140737488355328 ∧ (0 < l.length → ao = some ⟨b, off, none⟩ ∧ b < w.heap.size ∧ F b) ∧
      ∀ i, i < l.length → w.cell? ⟨b, off + i * 4, none⟩ = some (.bool (l.getD i Cl.z).1) ∧ w.cell? ⟨b, off + i * 4 + 1, none⟩ = some (.int .i64 (l.getD i Cl.z).2.1) ∧ w.cell? ⟨b, off + i * 4 + 2, none⟩ = some (.int .i64 (l.getD i Cl.z).2.2.1) ∧ w.cell? ⟨b, off + i * 4 + 3, none⟩ = some (.int .i64 (l.getD i Cl.z).2.2.2) := by
  obtain ⟨ao, b, off, cap, h0, h1, h2, h3⟩ := Enc.slN Cl.z h
  refine ⟨ao, b, off, cap, h0, h1, h2, fun i hi => ?_⟩
  obtain ⟨cs, _, g2, g3⟩ := h3 i hi
  have g4 : cs = (todoV (l.getD i Cl.z)).cells.toList := g3
  subst g4
  exact ⟨g2 0 (by decide), g2 1 (by decide), g2 2 (by decide), g2 3 (by decide)⟩
/-- All but the first one, as the slice [1:]. -/
theorem Cl.tail_slice {F : Nat → Prop} {w : World} {ao : Option Addr} {cap : Nat} {x : Cl.T} {r : List Cl.T} (h : (Enc.tdo.sl 32).R F w [.slice ao (x :: r).length cap] (x :: r)) :
    ∃ a n c, (∀ F' w', (Enc.tdo.sl 32).R F' w' [.slice ao (x :: r).length cap] (x :: r) → (Enc.tdo.sl 32).R F' w' [.slice a n c] r) ∧ ∀ W, (Instr.slice 119 (.slice ao (x :: r).length cap) (some (.int .i64 1)) none none).run Try.prog W = .ok (.slice a n c) W := by
  have hv := Enc.sliced h 1 (x :: r).length (by simp) (Nat.le_refl _)
  rw [List.take_length, show (x :: r).drop 1 = r from rfl] at hv
  have hall : ∀ F' w', (Enc.tdo.sl 32).R F' w' [.slice ao (x :: r).length cap] (x :: r) → (Enc.tdo.sl 32).R F' w' [Go.sliced ao 1 (x :: r).length cap 4] r := fun F' w' h => by
    have hv := Enc.sliced h 1 (x :: r).length (by simp) (Nat.le_refl _)
    rw [List.take_length, show (x :: r).drop 1 = r from rfl] at hv
    exact hv
  have hle : (x :: r).length ≤ cap := by
    obtain ⟨_, _, _, _, hq, hle, _⟩ := h
    simp only [List.cons.injEq, Value.slice.injEq, and_true, true_and] at hq
    omega
  have hpos : 1 ≤ (x :: r).length := by simp
  clear h
  generalize (x :: r).length = ln at *
  have hs : ∀ m : Nat, m = 1 → ∀ W, (Instr.slice 119 (.slice ao ln cap) (some (.int .i64 (m : Int))) none none).run Try.prog W = .ok (Go.sliced ao m ln cap 4) W := fun m hm W => by
    have hsz : (sizeOf (Try.prog.elem 119)).run Try.prog W = .ok 4 W := by kernel_rfl
    rw [run_slice_l W 119 ao ln cap (by kernel_rfl) .i64 m (by omega) (by omega), hsz]; rfl
  have hv2 := hv
  obtain ⟨a, _, _, c, hq, _⟩ := hv2
  simp only [List.cons.injEq, and_true] at hq
  have hq' : Go.sliced ao 1 ln cap 4 = .slice a r.length c := hq
  refine ⟨a, r.length, c, ?_, ?_⟩
  · rw [← hq']; exact hall
  · rw [← hq']; exact hs 1 rfl
theorem St.tailEnc {w0 w : World} {μ : List Asrt} {fp : List Nat} {v v' : Value} {x : Cl.T} {r : List Cl.T} (h : St w0 w (aEnc (Enc.tdo.sl 32) fp [v] (x :: r) :: μ)) (hv : ∀ F W, (Enc.tdo.sl 32).R F W [v] (x :: r) → (Enc.tdo.sl 32).R F W [v'] r) : St w0 w (aEnc (Enc.tdo.sl 32) fp [v'] r :: μ) :=
  h.turn rfl (hv _ _ (h.ok _ (.head _)))
namespace Cl
/-- A production's body, as what is ahead. -/
def asT (body : List (Int × Int)) : List T := body.map fun s => (false, 0, s.1, s.2)
theorem asT_nil : asT [] = [] := rfl
theorem asT_len {body : List (Int × Int)} : (asT body).length = body.length := by simp [asT]
theorem asT_step {body : List (Int × Int)} {k : Nat} (h : k < body.length) : asT (body.take (k + 1)) = asT (body.take k) ++ [(false, 0, (body.getD k (0, 0)).1, (body.getD k (0, 0)).2)] := by
  unfold asT
  rw [List.take_succ_eq_append_getElem h, List.map_append]; simp [List.getD, List.getElem?_eq_getElem h]
theorem asT_put {l : List (Int × List (Int × Int))} {p : Nat} {r : List T} : asT (l.getD p (0, [])).2 ++ [(true, (p : Int), 0, 0)] ++ r = put l p r := by simp [asT, put]
theorem asT_map (a r : List T) (x : T) : a.map todoV ++ [todoV x] ++ r.map todoV = (a ++ [x] ++ r).map todoV := by simp
attribute [irreducible] asT
end Cl

set_option maxRecDepth 100000 in
theorem clOver_any (v : Value) (seen ov e : Int) (dn : Bool) (C : Nat) (w : World) (h : w.cell? ⟨C, 1, none⟩ = some (.int .i64 seen)) :
    Calls Try.prog 161 #[.int .i64 e, .pointer (some ⟨C, 0, none⟩)] w fun en w' => en = .returned (.tuple #[.agg #[.slice none 0 0, .int .i64 seen, .int .i64 e, .bool false], .slice none 0 0, .int .i64 e]) ∧ Below w.heap.size w w' := by
  have hlt := World.block_lt_of_cell? _ _ h
  have hst := (St.init w).alloc #[.slice none 0 0, .int .i64 seen, .int .i64 e, .bool false] 121
  go_enter Try.func161, Try.ntmps161
  go_wp2
  obtain ⟨z0, z1, z2, z3⟩ := hst.at4 0 rfl
  refine bodyPost_ret (v := .tuple #[.agg #[.slice none 0 0, .int .i64 seen, .int .i64 e, .bool false], .slice none 0 0, .int .i64 e]) ?_ rfl ?_
  · simp [results, Try.results161, go_sem]
  · exact ⟨rfl, hst.bel⟩
end Go.Proofs.Ytldapomcjfkeeaa
