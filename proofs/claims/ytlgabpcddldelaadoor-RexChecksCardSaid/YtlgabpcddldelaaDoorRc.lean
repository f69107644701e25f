/-
  Regular expressions: what is wrong with one; how one lies in memory. (Plain functions; nothing of the program is claimed.)
-/
import Derived.Test.YtlgabpcddldelaaDoorRxOpen
import Derived.Test.YtlgabpcddldelaaDoorCs
import Derived.Test.YtlgabpcddldelaaDoorSepAt4
namespace Go.Proofs.YtlgabpcddldelaaDoor
set_option linter.unusedVariables false
open Go.ChangeShapes Go.WideShapes Go.ChangeAt Go.RowKit

namespace Rx
def nil : Rx := .mk 0 [] []
def ws (t : Rx) : List Nat := t.cls.map Int.toNat
def cel (t : Rx) (vk : Value) : List Value := .int .i64 t.kind :: ((ws t).map Cs.wV ++ [vk])
theorem ws_ok {t : Rx} (h : ClsOk t.cls) : Dm.Ok4 (ws t) ∧ t.cls.map (Value.int .u64) = (ws t).map Cs.wV := by
  obtain ⟨ws', h1, h2, h3⟩ := Cs.of_row (cs := t.cls.map (Value.int .u64)) rfl h.1 h.2
  have e : ws t = ws' := by
    unfold ws
    rw [h3, List.map_map]
    conv => rhs; rw [← List.map_id ws']
    exact List.map_congr_left fun x _ => by simp
  rw [e]
  exact ⟨h1, h2⟩
theorem opened {n : Nat} {F : Nat → Prop} {w : World} {cs : List Value} {t : Rx} (h : (enc n).R F w cs t) : ∃ m, n = m + 1 ∧ ∃ vk, cs = cel t vk ∧ (-9223372036854775808 ≤ t.kind ∧ t.kind ≤ 9223372036854775807) ∧ Dm.Ok4 (ws t) ∧ ((enc m).sl 64).R F w [vk] t.kids := by
  cases n with
  | zero => exact h.elim
  | succ m =>
    obtain ⟨c1, c2, rfl, ⟨rfl, h1⟩, c3, c4, rfl, ⟨rfl, h2, h2'⟩, h3⟩ := h
    have h4 := h3
    obtain ⟨ao, b, off, cap, rfl, _⟩ := h4
    have hw := ws_ok (t := t) ⟨h2, h2'⟩
    refine ⟨m, rfl, _, ?_, wf64 h1, hw.1, h3⟩
    show .int .i64 t.kind :: (t.cls.map (Value.int .u64) ++ [_]) = _
    rw [hw.2]; rfl
theorem kidsAt {n : Nat} {F : Nat → Prop} {w : World} {v : Value} {ks : List Rx} (h : ((enc n).sl 64).R F w [v] ks) :
    ∃ (ao : Option Addr) (b off cap : Nat), v = .slice ao ks.length cap ∧ (ks.length : Int) * 64 ≤ 140737488355328 ∧ (0 < ks.length → ao = some ⟨b, off, none⟩ ∧ b < w.heap.size ∧ F b) ∧
      ∀ i, i < ks.length → ∃ a0 a1 a2 a3 a c, ws (ks.getD i nil) = [a0, a1, a2, a3] ∧ w.cell? ⟨b, off + i * 6, none⟩ = some (.int .i64 (ks.getD i nil).kind) ∧ w.cell? ⟨b, off + i * 6 + 1, none⟩ = some (.int .u64 a0) ∧ w.cell? ⟨b, off + i * 6 + 2, none⟩ = some (.int .u64 a1) ∧ w.cell? ⟨b, off + i * 6 + 3, none⟩ = some (.int .u64 a2) ∧ w.cell? ⟨b, off + i * 6 + 4, none⟩ = some (.int .u64 a3) ∧ w.cell? ⟨b, off + i * 6 + 5, none⟩ = some (.slice a (ks.getD i nil).kids.length c) ∧ (enc n).R F w [.int .i64 (ks.getD i nil).kind, .int .u64 a0, .int .u64 a1, .int .u64 a2, .int .u64 a3, .slice a (ks.getD i nil).kids.length c] (ks.getD i nil) := by
  obtain ⟨ao, b, off, cap, h0, h1, h2, h3⟩ := Enc.slN nil h
  refine ⟨ao, b, off, cap, h0, h1, h2, fun i hi => ?_⟩
  obtain ⟨cs, _, g2, g3⟩ := h3 i hi
  rw [enc_size] at g2
  obtain ⟨m, rfl, vk, e1, q1, q2, q3⟩ := opened g3
  obtain ⟨a0, a1, a2, a3, hw⟩ := Cs.okFour q2
  have e2 : cs = [.int .i64 (ks.getD i nil).kind, .int .u64 a0, .int .u64 a1, .int .u64 a2, .int .u64 a3, vk] := by rw [e1, cel, hw]; rfl
  subst e2
  obtain ⟨ao, b, off, cap, u1, u2⟩ := q3
  simp only [List.cons.injEq, and_true] at u1
  subst u1
  exact ⟨a0, a1, a2, a3, _, _, hw, g2 0 (by decide), g2 1 (by decide), g2 2 (by decide), g2 3 (by decide), g2 4 (by decide), g2 5 (by decide), g3⟩

def kidsOf (k : Int) : Int := if k = 1 ∨ k = 2 ∨ k = 3 then 0 else if k = 6 then 1 else if k = 4 ∨ k = 5 then 2 else -1
def bad (t : Rx) : Bool := decide (kidsOf t.kind ≠ t.kids.length) || (decide (t.kind = 3) == decide (ws t = Dm.zero))
def chkK (f : Rx → Int → Int × Int) : List Rx → Int → Int × Int
  | [], n => (0, n)
  | k :: ks, n => if (f k n).1 = 0 then chkK f ks (f k n).2 else f k n
def chk : Nat → Rx → Int → Int → Int × Int
  | 0, _, _, n => (1, n)
  | f + 1, t, deep, n => if 100 < n + 1 then (2, n + 1) else if 30 < deep then (7, n + 1) else if bad t = true then (1, n + 1) else chkK (fun k n => chk f k (deep + 1) n) t.kids (n + 1)
def In (n : Int) : Prop := 0 ≤ n ∧ n ≤ 100
def Out (r : Int × Int) : Prop := 0 ≤ r.2 ∧ r.2 ≤ 101 ∧ (r.1 = 0 → r.2 ≤ 100) ∧ (r.1 = 0 ∨ r.1 = 1 ∨ r.1 = 2 ∨ r.1 = 7)
theorem chkK_out {f : Rx → Int → Int × Int} (hf : ∀ k n, In n → Out (f k n)) : ∀ {ks : List Rx} {n : Int}, In n → Out (chkK f ks n) := by
  intro ks
  induction ks with
  | nil => intro n h; exact ⟨h.1, Int.le_trans h.2 (by decide), fun _ => h.2, .inl rfl⟩
  | cons k ks ih =>
    intro n h
    have h1 := hf k n h
    rw [chkK]
    split
    · rename_i h0
      exact ih ⟨h1.1, h1.2.2.1 h0⟩
    · exact h1
theorem chk_out : ∀ {f : Nat} {t : Rx} {deep n : Int}, In n → Out (chk f t deep n) := by
  intro f
  induction f with
  | zero => intro t deep n h; exact ⟨h.1, Int.le_trans h.2 (by decide), (fun h => by cases h), .inr (.inl rfl)⟩
  | succ f ih =>
    intro t deep n h
    obtain ⟨h1, h2⟩ := h
    rw [chk]
    split
    · exact ⟨by show 0 ≤ n + 1; omega, by show n + 1 ≤ 101; omega, (fun h => by cases h), .inr (.inr (.inl rfl))⟩
    · split
      · exact ⟨by show 0 ≤ n + 1; omega, by show n + 1 ≤ 101; omega, (fun h => by cases h), .inr (.inr (.inr rfl))⟩
      · split
        · exact ⟨by show 0 ≤ n + 1; omega, by show n + 1 ≤ 101; omega, (fun h => by cases h), .inr (.inl rfl)⟩
        · exact chkK_out (fun k n hn => ih hn) ⟨by omega, by omega⟩
theorem drop_at {α : Type} (l : List α) (d : α) (k : Nat) (h : k < l.length) : l.drop k = l.getD k d :: l.drop (k + 1) := by
  rw [List.drop_eq_getElem_cons h]; simp [List.getD, List.getElem?_eq_getElem h]
theorem chkK_at {f : Rx → Int → Int × Int} {ks : List Rx} {n : Int} {i : Nat} (h1 : i < ks.length) : chkK f (ks.drop i) n = if (f (ks.getD i nil) n).1 = 0 then chkK f (ks.drop (i + 1)) (f (ks.getD i nil) n).2 else f (ks.getD i nil) n := by
  rw [drop_at ks nil i h1, chkK]
theorem chkK_end {f : Rx → Int → Int × Int} {ks : List Rx} {n : Int} {i : Nat} (h1 : ¬ i < ks.length) : chkK f (ks.drop i) n = (0, n) := by
  rw [List.drop_eq_nil_of_le (by omega), chkK]
/-- Nodes that are right, no deeper than f. -/
def good : Nat → Rx → Prop
  | 0, _ => False
  | f + 1, t => bad t = false ∧ ∀ k ∈ t.kids, good f k
/-- Nodes. -/
def cnt : Nat → Rx → Nat
  | 0, _ => 1
  | f + 1, t => 1 + (t.kids.map (cnt f)).sum
theorem cnt_pos (f : Nat) (t : Rx) : 0 < cnt f t := by
  cases f with
  | zero => exact Nat.one_pos
  | succ f => rw [cnt]; omega
theorem chkK_good {g : Rx → Int → Int × Int} {G : Rx → Prop} {c : Rx → Nat} (hg : ∀ k n, (g k n).1 = 0 → G k ∧ (g k n).2 = n + c k) : ∀ {ks : List Rx} {n : Int}, (chkK g ks n).1 = 0 → (∀ k ∈ ks, G k) ∧ (chkK g ks n).2 = n + ((ks.map c).sum : Nat) := by
  intro ks
  induction ks with
  | nil => intro n h; exact ⟨(fun k hk => absurd hk List.not_mem_nil), by simp [chkK]⟩
  | cons k ks ih =>
    intro n h
    rw [chkK] at h ⊢
    by_cases h0 : (g k n).1 = 0
    · rw [if_pos h0] at h ⊢
      obtain ⟨h1, h2⟩ := ih h
      obtain ⟨g1, g2⟩ := hg k n h0
      refine ⟨fun x hx => ?_, ?_⟩
      · rcases List.mem_cons.1 hx with rfl | hx
        · exact g1
        · exact h1 x hx
      · rw [h2, g2, List.map_cons, List.sum_cons]; omega
    · rw [if_neg h0] at h
      exact absurd h h0
theorem chk_good : ∀ {f : Nat} {t : Rx} {deep n : Int}, (chk f t deep n).1 = 0 → good f t ∧ (chk f t deep n).2 = n + cnt f t := by
  intro f
  induction f with
  | zero => intro t deep n h; cases h
  | succ f ih =>
    intro t deep n h
    rw [chk] at h ⊢
    split at h
    · cases h
    · rename_i h1
      split at h
      · cases h
      · rename_i h2
        split at h
        · cases h
        · rename_i h3
          rw [if_neg h1, if_neg h2, if_neg h3]
          obtain ⟨g1, g2⟩ := chkK_good (fun k n hk => ih hk) h
          refine ⟨⟨by simpa using h3, g1⟩, ?_⟩
          rw [g2, cnt]; exact (Int.add_assoc ..).trans (by congr 1)
/-- What is wrong with one that was opened up to f. -/
def err (f : Nat) (t : Rx) : Int := (chk f t 1 0).1
theorem err_good {f : Nat} {t : Rx} (h : err f t = 0) : good f t ∧ cnt f t ≤ 100 := by
  obtain ⟨h1, h2⟩ := chk_good h
  have := (chk_out (f := f) (t := t) (deep := 1) (n := 0) ⟨by decide, by decide⟩).2.2.1 h
  exact ⟨h1, by omega⟩
theorem good_kind {f : Nat} {t : Rx} (h : good f t) : ((t.kind = 1 ∨ t.kind = 2) ∧ t.kids = [] ∧ ws t = Dm.zero) ∨ (t.kind = 3 ∧ t.kids = [] ∧ ws t ≠ Dm.zero) ∨ (t.kind = 6 ∧ t.kids.length = 1 ∧ ws t = Dm.zero) ∨ ((t.kind = 4 ∨ t.kind = 5) ∧ t.kids.length = 2 ∧ ws t = Dm.zero) := by
  cases f with
  | zero => exact h.elim
  | succ f =>
    have h1 := h.1
    unfold bad at h1
    simp only [Bool.or_eq_false_iff, decide_eq_false_iff_not, Decidable.not_not] at h1
    obtain ⟨h1, h2⟩ := h1
    unfold kidsOf at h1
    by_cases k3 : t.kind = 3
    · have hw : ¬ ws t = Dm.zero := by
        intro e; rw [k3, e] at h2; simp at h2
      rw [if_pos (by omega)] at h1
      exact .inr (.inl ⟨k3, List.eq_nil_of_length_eq_zero (by omega), hw⟩)
    · have hw : ws t = Dm.zero := by
        by_cases e : ws t = Dm.zero
        · exact e
        · simp [k3, e] at h2
      by_cases k1 : t.kind = 1 ∨ t.kind = 2
      · rw [if_pos (by omega)] at h1
        exact .inl ⟨k1, List.eq_nil_of_length_eq_zero (by omega), hw⟩
      · rw [if_neg (by omega)] at h1
        by_cases k6 : t.kind = 6
        · rw [if_pos k6] at h1
          exact .inr (.inr (.inl ⟨k6, by omega, hw⟩))
        · rw [if_neg k6] at h1
          by_cases k4 : t.kind = 4 ∨ t.kind = 5
          · rw [if_pos k4] at h1
            exact .inr (.inr (.inr ⟨k4, by omega, hw⟩))
          · rw [if_neg k4] at h1
            omega
end Rx
end Go.Proofs.YtlgabpcddldelaaDoor
