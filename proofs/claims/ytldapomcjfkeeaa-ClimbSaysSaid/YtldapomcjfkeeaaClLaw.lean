/-
  What ClimbSays needs besides: bounds of what a step tells, Begin, climbed of the law.
-/
import Derived.Test.YtldapomcjfkeeaaClRef
namespace Go.Proofs.Ytldapomcjfkeeaa
set_option linter.unusedVariables false
open Go.ChangeShapes Go.WideShapes Go.ChangeAt Go.RowKit

def Enc.evt : Enc (Int × Int) where
  size := 2
  R := fun _ _ cs x => cs = (pairV x).cells.toList
  len := fun h => by rw [h]; rfl
  mono := fun h _ _ => h
theorem slEvt {bytes : Nat} {F : Nat → Prop} {w : World} {v : Value} {l : List (Int × Int)} (h : (Enc.evt.sl bytes).R F w [v] l) :
    ∃ (ao : Option Addr) (b off cap : Nat), v = .slice ao l.length cap ∧ (l.length : Int) * bytes ≤ 140737488355328 ∧ (0 < l.length → ao = some ⟨b, off, none⟩ ∧ b < w.heap.size ∧ F b) ∧
      ∀ i, i < l.length → w.cell? ⟨b, off + i * 2, none⟩ = some (.int .i64 (l.getD i (0, 0)).1) ∧ w.cell? ⟨b, off + i * 2 + 1, none⟩ = some (.int .i64 (l.getD i (0, 0)).2) := by
  obtain ⟨ao, b, off, cap, h0, h1, h2, h3⟩ := Enc.slN (0, 0) h
  refine ⟨ao, b, off, cap, h0, h1, h2, fun i hi => ?_⟩
  obtain ⟨cs, _, g2, g3⟩ := h3 i hi
  have g4 : cs = (pairV (l.getD i (0, 0))).cells.toList := g3
  subst g4
  exact ⟨g2 0 (by decide), g2 1 (by decide)⟩
/-- What reads with its bounds reads without. -/
theorem todo_tdo {bytes : Nat} {F : Nat → Prop} {w : World} {v : Value} {l : List Cl.T} (h : (Enc.todo.sl bytes).R F w [v] l) : (Enc.tdo.sl bytes).R F w [v] l := by
  obtain ⟨ao, b, off, cap, h0, h1, h2, h3, h4, h5, h6⟩ := h
  refine ⟨ao, b, off, cap, h0, h1, h2, h3, h4, h5, fun i hi => ?_⟩
  obtain ⟨cs, g1, g2, g3⟩ := h6 i hi
  exact ⟨cs, g1, g2, todo_cells g3⟩

namespace Cl
section
variable {ps : List (Int × List (Int × Int))} {rows : List (List Int)} {c : Nat} {seen : Int}
theorem push_wf (a : List T) (ha : a.length ≤ 60) : (push ps rows c seen a).2.1.length ≤ 60 ∧ (push ps rows c seen a).2.2.length ≤ 2000 := by
  obtain ⟨-, k2⟩ := dn_go (ps := ps) (rows := rows) (c := c) (last := false) (seen := seen) 2001 a [] 2002 ha (by simp) (by simp) (by simp)
  rw [push]
  generalize dn ps rows c 2001 a [] = y at *
  by_cases h : y.1 = 0
  · obtain ⟨f', j1, j2, j3, j4, j5⟩ := k2 h
    rw [if_neg (by simp [h])]
    cases hy : y.2.1 with
    | nil => exact ⟨Nat.zero_le _, Nat.zero_le _⟩
    | cons x r =>
      rw [hy] at j3
      simp only [tok]
      split
      · exact ⟨Nat.zero_le _, Nat.zero_le _⟩
      split
      · exact ⟨Nat.zero_le _, Nat.zero_le _⟩
      split
      · exact ⟨Nat.zero_le _, Nat.zero_le _⟩
      · rename_i h1 h2 _ z hz
        obtain ⟨z1, z2⟩ := z
        obtain ⟨-, i2, i3, i4, -⟩ := clo_some _ _ _ _ hz
        rw [List.length_cons] at j3
        rw [List.length_append, List.length_singleton] at i4
        exact ⟨by simp only; omega, i4 (by omega)⟩
  · rw [if_pos h]; exact ⟨Nat.zero_le _, Nat.zero_le _⟩
theorem end_wf (a : List T) (ha : a.length ≤ 60) : (ending ps rows c a).2.2.length ≤ 2000 := by
  obtain ⟨-, k2⟩ := dn_go (ps := ps) (rows := rows) (c := c) (last := false) (seen := 0) 2001 a [] 2002 ha (by simp) (by simp) (by simp)
  rw [ending]
  generalize dn ps rows c 2001 a [] = y at *
  by_cases h : y.1 = 0
  · obtain ⟨f', j1, j2, j3, j4, j5⟩ := k2 h
    rw [if_neg (by simp [h])]
    split
    · exact Nat.zero_le _
    · exact j2
  · rw [if_pos h]; exact Nat.zero_le _
theorem dn_good {t n : Int} {l : List (Int × List (Int × Int))} {rows : List (List Int)} {c : Nat} (he : Rw.all t n l rows = 0) (hc : (c : Int) ≤ t) (f : Nat) :
    ∀ (a : List T) (o : List (Int × Int)), (∀ x ∈ a, good t n l.length x = true) → (dn l rows c f a o).1 = 0 → ∀ x ∈ (dn l rows c f a o).2.1, good t n l.length x = true := by
  obtain ⟨hz1, hz2, hz3⟩ := rw_zero he
  have hz8 := (Gr.err_zero hz1).2.2.2.2.2
  induction f with
  | zero => intro a o _ h; cases h
  | succ f ih =>
    intro a o hg h
    cases hY : clo a o with
    | none => rw [dn_many hY] at h; cases h
    | some y =>
      obtain ⟨a', o'⟩ := y
      obtain ⟨s1, -, -, -, s5⟩ := clo_some _ _ _ _ hY
      cases a' with
      | nil => rw [dn_nil hY]; intro x hx; cases hx
      | cons x r =>
        have hx1 := s5 x r rfl
        by_cases hk : x.2.2.1 = 1
        · rw [dn_term hY hk]; exact fun y hy => hg y (s1 y hy)
        · obtain ⟨q, hq⟩ : ∃ q, (rows.getD x.2.2.2.toNat []).getD c 0 = q := ⟨_, rfl⟩
          by_cases hq0 : q < 0
          · rw [dn_bad hY hk hq hq0] at h; cases h
          by_cases hok : o'.length < 2000 ∧ (put l q.toNat r).length ≤ 60
          · rw [dn_step hY hk hq hq0 hok] at h ⊢
            refine ih _ _ ?_ h
            rcases good_open (hg x (s1 x (.head _))) hx1 with ⟨g1, _, _⟩ | ⟨g1, g2, g3⟩
            · exact absurd g1 hk
            have hs : x.2.2.2.toNat < rows.length := by omega
            obtain ⟨hrow, hgd⟩ := hz3 _ hs
            obtain ⟨-, e2, -⟩ := hgd c (by omega)
            rw [hq] at e2
            have hpl : q.toNat < l.length := by omega
            obtain ⟨-, -, -, hbg⟩ := hz8 (l.getD q.toNat (0, [])) (by simp [List.getD, List.getElem?_eq_getElem hpl])
            exact put_good hbg hpl (fun y hy => hg y (s1 y (.tail _ hy)))
          · rw [dn_deep hY hk hq hq0 hok] at h; cases h
end
/-- The reference's loop at the end tells the same. -/
theorem ending_ref {t n : Int} {l : List (Int × List (Int × Int))} {rows : List (List Int)} {c : Nat} {seen : Int} (he : Rw.all t n l rows = 0) (hc : (c : Int) = t) (a : List T) (ha : a.length ≤ 60) (hg : ∀ x ∈ a, good t n l.length x = true) : go l rows c true seen 2002 false a [] = ending l rows c a := by
  by_cases h0 : (dn l rows c 2001 a []).1 = 0
  · refine ending_go a ha (fun x r hx => ?_)
    have hgd := dn_good he (by omega) 2001 a [] hg h0
    rw [hx] at hgd
    have hxg := hgd x (.head _)
    obtain ⟨-, k2⟩ := dn_go (ps := l) (rows := rows) (c := c) (last := true) (seen := seen) 2001 a [] 2002 ha (by simp) (by simp) (by simp)
    obtain ⟨f', j1, j2, j3, j4, j5⟩ := k2 h0
    obtain ⟨q1, q2⟩ := j5 x r hx
    rcases good_open hxg q1 with ⟨g1, g2, g3⟩ | ⟨g1, g2, g3⟩ <;> omega
  · obtain ⟨k1, -⟩ := dn_go (ps := l) (rows := rows) (c := c) (last := true) (seen := seen) 2001 a [] 2002 ha (by simp) (by simp) (by simp)
    rw [k1 h0, ending, if_pos h0]
/-- What a step tells (at a column): at a terminal, at the end. -/
def res (l : List (Int × List (Int × Int))) (rows : List (List Int)) (c : Nat) (last : Bool) (seen : Int) (a : List T) : Int × List T × List (Int × Int) := if last = true then ending l rows c a else push l rows c seen a
def wfR (r : R) : Prop := (r.st.length : Int) * 32 ≤ 140737488355328 ∧ (r.out.length : Int) * 16 ≤ 140737488355328
theorem tell_wf {l : List (Int × List (Int × Int))} {rows : List (List Int)} {td : List T} {seen ov : Int} {dn : Bool} {c : Nat} {E : Int} {last : Bool} (h1 : (td.length : Int) * 32 ≤ 140737488355328) (hz : E = 0 → td.length ≤ 60) :
    wfR (tell E last (res l rows c last seen td.reverse) td seen ov dn) := by
  by_cases hE : E = 0
  · have h60 := hz hE
    subst hE
    rw [tell_ok]
    cases last
    · have hw := push_wf (ps := l) (rows := rows) (c := c) (seen := seen) td.reverse (by rw [List.length_reverse]; exact h60)
      rw [res, if_neg (by simp)]
      generalize push l rows c seen td.reverse = X at *
      by_cases he : X.1 = 0
      · rw [fin_go he]; exact ⟨by simp only [List.length_reverse]; omega, by simp only; omega⟩
      · rw [fin_bad he]; exact ⟨by simp, by simp⟩
    · have hw := end_wf (ps := l) (rows := rows) (c := c) td.reverse (by rw [List.length_reverse]; exact h60)
      rw [res, if_pos rfl]
      generalize ending l rows c td.reverse = X at *
      by_cases he : X.1 = 0
      · rw [fin_end he]; exact ⟨by simp, by simp only; omega⟩
      · rw [fin_bad he]; exact ⟨by simp, by simp⟩
  · rw [tell_bad hE]; exact ⟨h1, by simp⟩
end Cl

set_option maxRecDepth 100000 in
set_option maxHeartbeats 8000000 in
theorem eqTodosT {v1 v2 : Value} {l : List Cl.T} (w : World) {F1 F2 : Nat → Prop} (h1 : (Enc.tdo.sl 32).R F1 w [v1] l) (h2 : (Enc.tdo.sl 32).R F2 w [v2] l) :
    Calls Try.prog 125 #[v1, v2] w fun e w' => e = .returned (.bool true) ∧ Below w.heap.size w w' := by
  obtain ⟨a1, b1, o1, c1, rfl, k1, k3, k4⟩ := slTdo h1
  obtain ⟨a2, b2, o2, c2, rfl, g1, g3, g4⟩ := slTdo h2
  have hll : (l.length : Int) ≤ 140737488355328 := by omega
  have K3 := Lib.hid k3; have K4 := Lib.hid k4; have G3 := Lib.hid g3; have G4 := Lib.hid g4
  clear k3 k4 g3 g4 h1 h2 k1 g1
  have hne : ((l.length : Int) != (l.length : Int)) = false := by rw [bne_eq_false_iff_eq]
  go_enter Try.func125, Try.ntmps125
  go_wp2
  go_loopw [5, 13] (fun _ i wr => ∃ k : Nat, k ≤ l.length ∧ i = .int .i64 k ∧ Below w.heap.size w wr) (fun _ i _ => l.length - (intOf i).toNat)
  case atStart => exact ⟨0, by omega, rfl, Below.refl _ _⟩
  case round =>
    obtain ⟨k, hk, rfl, hB⟩ := hrel
    by_cases hlt : k < l.length
    · obtain ⟨rfl, _⟩ := K3.out (by omega)
      obtain ⟨rfl, _⟩ := G3.out (by omega)
      obtain ⟨j1, j2, j3, j4⟩ := K4.out k hlt
      obtain ⟨i1, i2, i3, i4⟩ := G4.out k hlt
      have hc1 := bkeep hB j1
      have hc2 := bkeep hB j2
      have hc3 := bkeep hB j3
      have hc4 := bkeep hB j4
      have hd1 := bkeep hB i1
      have hd2 := bkeep hB i2
      have hd3 := bkeep hB i3
      have hd4 := bkeep hB i4
      generalize l.getD k Cl.z = x at hc1 hc2 hc3 hc4 hd1 hd2 hd3 hd4
      obtain ⟨x1, x2, x3, x4⟩ := x
      simp only at hc1 hc2 hc3 hc4 hd1 hd2 hd3 hd4
      clear K3 K4 G3 G4 j1 j2 j3 j4 i1 i2 i3 i4
      go_wp2
      go_quiet (fail)
      go_wp2
      go_roundw
      case rel => exact ⟨k + 1, by omega, by go_num, below_drewN hB _⟩
      case measure => simp [intOf]; omega
    · clear K3 K4 G3 G4
      go_wp2
      go_ret
      exact ⟨rfl, hB⟩

set_option maxRecDepth 100000 in
set_option maxHeartbeats 8000000 in
theorem sameCliT {v1 v2 : Value} {l : List Cl.T} (a b : Int) (d : Bool) (w : World) {F1 F2 : Nat → Prop} (hF1 : ∀ b, F1 b → b < w.heap.size) (hF2 : ∀ b, F2 b → b < w.heap.size) (h1 : (Enc.tdo.sl 32).R F1 w [v1] l) (h2 : (Enc.tdo.sl 32).R F2 w [v2] l) :
    Calls Try.prog 60 #[.agg #[v1, .int .i64 a, .int .i64 b, .bool d], .agg #[v2, .int .i64 a, .int .i64 b, .bool d]] w fun e w' => e = .returned (.bool true) ∧ Below w.heap.size w w' := by
  have hst := ((St.init w).alloc #[v1, .int .i64 a, .int .i64 b, .bool d] 121).alloc #[v2, .int .i64 a, .int .i64 b, .bool d] 121
  simp only [World.size_alloc] at hst
  have HEQ := Lib.hid (eqTodosT (v1 := v1) (v2 := v2) (l := l) _ (Enc.mono _ h1 (fun _ h => h) (fun b hb => hst.bel.block b (hF1 b hb))) (Enc.mono _ h2 (fun _ h => h) (fun b hb => hst.bel.block b (hF2 b hb))))
  clear h1 h2 hF1 hF2
  go_enter Try.func60, Try.ntmps60
  go_wp2_with (fail)
  go_at_call 125
  refine HEQ.out.mono ?_
  rintro e w1 ⟨rfl, hb1⟩
  replace hst := hst.call hb1
  obtain ⟨x0, x1, x2, x3⟩ := hst.at4 0 rfl
  obtain ⟨y0, y1, y2, y3⟩ := hst.at4 1 rfl
  clear hb1
  go_wp2
  go_ret
  exact ⟨rfl, hst.bel⟩


set_option maxRecDepth 100000 in
set_option maxHeartbeats 8000000 in
theorem eqEvtsF {v1 v2 : Value} {l : List (Int × Int)} (w : World) {F1 F2 : Nat → Prop} (h1 : (Enc.evt.sl 16).R F1 w [v1] l) (h2 : (Enc.evt.sl 16).R F2 w [v2] l) :
    Calls Try.prog 40 #[v1, v2] w fun e w' => e = .returned (.bool true) ∧ Below w.heap.size w w' := by
  obtain ⟨a1, b1, o1, c1, rfl, k1, k3, k4⟩ := slEvt h1
  obtain ⟨a2, b2, o2, c2, rfl, g1, g3, g4⟩ := slEvt h2
  have hll : (l.length : Int) ≤ 140737488355328 := by omega
  have K3 := Lib.hid k3; have K4 := Lib.hid k4; have G3 := Lib.hid g3; have G4 := Lib.hid g4
  clear k3 k4 g3 g4 h1 h2 k1 g1
  have hne : ((l.length : Int) != (l.length : Int)) = false := by rw [bne_eq_false_iff_eq]
  go_enter Try.func40, Try.ntmps40
  go_wp2
  go_loopw [5, 13] (fun _ i wr => ∃ k : Nat, k ≤ l.length ∧ i = .int .i64 k ∧ Below w.heap.size w wr) (fun _ i _ => l.length - (intOf i).toNat)
  case atStart => exact ⟨0, by omega, rfl, Below.refl _ _⟩
  case round =>
    obtain ⟨k, hk, rfl, hB⟩ := hrel
    by_cases hlt : k < l.length
    · obtain ⟨rfl, _⟩ := K3.out (by omega)
      obtain ⟨rfl, _⟩ := G3.out (by omega)
      have hc1 := bkeep hB (K4.out k hlt).1
      have hc2 := bkeep hB (K4.out k hlt).2
      have hc3 := bkeep hB (G4.out k hlt).1
      have hc4 := bkeep hB (G4.out k hlt).2
      generalize l.getD k (0, 0) = x at hc1 hc2 hc3 hc4
      obtain ⟨x1, x2⟩ := x
      simp only at hc1 hc2 hc3 hc4
      clear K3 K4 G3 G4
      go_wp2
      go_quiet (fail)
      go_wp2
      go_roundw
      case rel => exact ⟨k + 1, by omega, by go_num, below_drewN hB _⟩
      case measure => simp [intOf]; omega
    · clear K3 K4 G3 G4
      go_wp2
      go_ret
      exact ⟨rfl, hB⟩

set_option maxRecDepth 100000 in
set_option maxHeartbeats 8000000 in
theorem climbed_bad (t n seen ov col E : Int) (dn : Bool) (vp vr vs vs2 : Value) (al : Option Addr) (cl : Nat) (st : List Cl.T) (w : World) (F F2 : Nat → Prop) (hF : ∀ b, F b → b < w.heap.size) (hF2 : ∀ b, F2 b → b < w.heap.size) (hs : (Enc.tdo.sl 32).R F w [vs] st) (hs2 : (Enc.tdo.sl 32).R F2 w [vs2] st) (hE : E ≠ 0) :
    Calls Try.prog 65 #[.agg #[.int .i64 t, .int .i64 n, vp], vr, .agg #[vs, .int .i64 seen, .int .i64 ov, .bool dn], .int .i64 col, .int .i64 E, .agg #[vs2, .int .i64 seen, .int .i64 ov, .bool dn], .slice al 0 cl, .int .i64 E] w fun e w' => e = .returned (.bool true) ∧ Below w.heap.size w w' := by
  have hst := (((St.init w).alloc #[.int .i64 t, .int .i64 n, vp] 68).alloc #[vs, .int .i64 seen, .int .i64 ov, .bool dn] 121).alloc #[vs2, .int .i64 seen, .int .i64 ov, .bool dn] 121
  simp only [World.size_alloc] at hst
  have HC := Lib.hid (fun (W : World) (hW : Below w.heap.size w W) => sameCliT (v1 := vs2) (v2 := vs) (l := st) seen ov dn W (F1 := F2) (F2 := F) (fun b hb => Nat.lt_of_lt_of_le (hF2 b hb) hW.size) (fun b hb => Nat.lt_of_lt_of_le (hF b hb) hW.size) (Enc.mono _ hs2 (fun _ h => h) (fun b hb => hW.block b (hF2 b hb))) (Enc.mono _ hs (fun _ h => h) (fun b hb => hW.block b (hF b hb))))
  have hb1 : (E != 0) = true := by rw [bne_iff_ne]; exact hE
  clear hs hs2 hF hF2 hE
  go_enter Try.func65, Try.ntmps65
  go_wp2_with (fail)
  go_at_call 60
  refine (HC.out _ hst.bel).mono ?_
  rintro e w1 ⟨rfl, hb2⟩
  replace hst := hst.call hb2
  clear hb2
  go_wp2
  go_ret
  exact ⟨rfl, hst.bel⟩

set_option maxRecDepth 100000 in
set_option maxHeartbeats 8000000 in
theorem climbed_ok (t n seen ov col : Int) (dn : Bool) (vp vr vs vs2 ve2 : Value) (r : Cl.R) (w : World) (F2 : Nat → Prop) (hF2 : ∀ b, F2 b → b < w.heap.size) (hs2 : (Enc.tdo.sl 32).R F2 w [vs2] r.st) (he2 : (Enc.evt.sl 16).R F2 w [ve2] r.out)
    (hwf : (r.st.length : Int) * 32 ≤ 140737488355328 ∧ (r.out.length : Int) * 16 ≤ 140737488355328)
    (HREF : ∀ W, Below w.heap.size w W → Calls Try.prog 134 #[.agg #[.int .i64 t, .int .i64 n, vp], vr, .agg #[vs, .int .i64 seen, .int .i64 ov, .bool dn], .int .i64 col] W (Cl.Ret r W)) :
    Calls Try.prog 65 #[.agg #[.int .i64 t, .int .i64 n, vp], vr, .agg #[vs, .int .i64 seen, .int .i64 ov, .bool dn], .int .i64 col, .int .i64 0, .agg #[vs2, .int .i64 r.seen, .int .i64 r.over, .bool r.done], ve2, .int .i64 r.err] w fun e w' => e = .returned (.bool true) ∧ Below w.heap.size w w' := by
  obtain ⟨err, st, sn2, ov2, out, dn2⟩ : ∃ (err : Int) (st : List Cl.T) (sn2 ov2 : Int) (out : List (Int × Int)), ∃ dn2, r = ⟨err, st, sn2, ov2, dn2, out⟩ := ⟨r.err, r.st, r.seen, r.over, r.out, r.done, rfl⟩
  obtain ⟨dn2, rfl⟩ := dn2
  simp only at hs2 he2 hwf
  have hst := (((St.init w).alloc #[.int .i64 t, .int .i64 n, vp] 68).alloc #[vs, .int .i64 seen, .int .i64 ov, .bool dn] 121).alloc #[vs2, .int .i64 sn2, .int .i64 ov2, .bool dn2] 121
  simp only [World.size_alloc] at hst
  have HR := Lib.hid HREF
  have HS2 := Lib.hid (fun (W : World) (hW : Below w.heap.size w W) => Enc.mono _ hs2 (fun _ h => h) (fun b hb => hW.block b (hF2 b hb)))
  have HE2 := Lib.hid (fun (W : World) (hW : Below w.heap.size w W) => Enc.mono _ he2 (fun _ h => h) (fun b hb => hW.block b (hF2 b hb)))
  have HWF := Lib.hid hwf
  have HF2 := Lib.hid hF2
  clear HREF hs2 he2 hwf hF2
  go_enter Try.func65, Try.ntmps65
  go_wp2_with (fail)
  go_at_call 134
  refine (HR.out _ hst.bel).mono ?_
  rintro e w1 ⟨vs3, ve3, rfl, hst2⟩
  simp only at hst2 ⊢
  have HO3 := Lib.hid (Own.enc (En := Enc.tdo) (bytes := 32) (F := fun b => b < w1.heap.size) (f := todoV) (hst2.ownAt 0 rfl) rfl (fun _ _ => rfl) (fun b hb => ((hst2.nth 0 rfl).fpOwn b hb).2) HWF.out.1)
  have HE3 := Lib.hid (Own.enc (En := Enc.evt) (bytes := 16) (F := fun b => b < w1.heap.size) (f := pairV) (hst2.ownAt 1 rfl) rfl (fun _ _ => rfl) (fun b hb => ((hst2.nth 1 rfl).fpOwn b hb).2) HWF.out.2)
  obtain ⟨a3, c3, rfl⟩ := (hst2.ownAt 0 rfl).isLen
  obtain ⟨a4, c4, rfl⟩ := (hst2.ownAt 1 rfl).isLen
  simp only [List.length_map] at hst2 HO3 HE3 ⊢
  replace hst := hst.call hst2.bel
  have hstB := hst.alloc #[.slice a3 st.length c3, .int .i64 sn2, .int .i64 ov2, .bool dn2] 121
  clear hst2
  obtain ⟨x0, x1, x2, x3⟩ := hst.at4 0 rfl
  have lx := World.block_lt_of_cell? _ _ x0
  go_wp2_with (fail)
  go_at_call 60
  refine (sameCliT (l := st) sn2 ov2 dn2 _ (F1 := F2) (F2 := fun b => b < w1.heap.size) (fun b hb => Nat.lt_of_lt_of_le (HF2.out b hb) hstB.bel.size) (fun b hb => Nat.lt_of_lt_of_le hb (by simp)) (HS2.out _ hstB.bel) (Enc.mono _ HO3.out (fun _ h => h) (fun b hb => heap_alloc_old _ _ hb))).mono ?_
  rintro e w2 ⟨rfl, hb2⟩
  have hbx := ((Below.refl w1.heap.size w1).alloc (Nat.le_refl _) (.cells #[.slice a3 st.length c3, .int .i64 sn2, .int .i64 ov2, .bool dn2] 121)).trans (hb2.mono (by simp))
  replace hstB := hstB.call hb2
  clear hb2 hst x0 x1 x2 x3 lx
  go_wp2_with (fail)
  go_at_call 40
  refine (eqEvtsF (l := out) _ (HE2.out _ hstB.bel) (Enc.mono _ HE3.out (fun _ h => h) (fun b hb => hbx.block b hb))).mono ?_
  rintro e w3 ⟨rfl, hb3⟩
  replace hstB := hstB.call hb3
  go_wp2
  go_ret
  exact ⟨rfl, hstB.bel⟩

set_option maxRecDepth 100000 in
theorem clBegin_any (w : World) : Calls Try.prog 61 #[] w fun e w' => ∃ v, e = .returned (.agg #[v, .int .i64 0, .int .i64 0, .bool false]) ∧ St w w' [aOwn 125 4 v ([((false, 0, 2, 0) : Cl.T)].map todoV)] := by
  have hst := ((St.init w).alloc #[.slice (some ⟨w.heap.size + 1, 0, none⟩) 1 1, .int .i64 0, .int .i64 0, .bool false] 121).alloc #[.bool false, .int .i64 0, .int .i64 2, .int .i64 0] 125
  obtain ⟨k0, k1, k2, k3⟩ := hst.at4 1 rfl
  have hO : Own ((w.alloc (.cells #[.slice (some ⟨w.heap.size + 1, 0, none⟩) 1 1, .int .i64 0, .int .i64 0, .bool false] 121)).alloc (.cells #[.bool false, .int .i64 0, .int .i64 2, .int .i64 0] 125)) 0 125 4 (.slice (some ⟨w.heap.size + 1, 0, none⟩) 1 1) ([((false, 0, 2, 0) : Cl.T)].map todoV) := by
    unfold Own
    refine ⟨rfl, .inr ⟨w.heap.size + 1, 1, #[.bool false, .int .i64 0, .int .i64 2, .int .i64 0], rfl, Nat.zero_le _, ?_, by simp, by decide, rfl, rfl⟩⟩
    have := heap_alloc_new (w.alloc (.cells #[.slice (some ⟨w.heap.size + 1, 0, none⟩) 1 1, .int .i64 0, .int .i64 0, .bool false] 121)) (.cells #[.bool false, .int .i64 0, .int .i64 2, .int .i64 0] 125)
    simpa using this
  have hst2 := (hst.nth 0 rfl).turn (A' := aOwn 125 4 (.slice (some ⟨w.heap.size + 1, 0, none⟩) 1 1) ([((false, 0, 2, 0) : Cl.T)].map todoV)) (by simp [aOwn, aCel, Value.ownBlock]) hO
  have HST := Lib.hid hst2
  clear hst hst2 hO
  go_enter Try.func61, Try.ntmps61
  go_wp2
  refine bodyPost_ret (v := .agg #[.slice (some ⟨w.heap.size + 1, 0, none⟩) 1 1, .int .i64 0, .int .i64 0, .bool false]) ?_ rfl ?_
  · simp [results, Try.results61, go_sem, k0, k1, k2, k3]
  · exact ⟨_, rfl, HST.out⟩
end Go.Proofs.Ytldapomcjfkeeaa
