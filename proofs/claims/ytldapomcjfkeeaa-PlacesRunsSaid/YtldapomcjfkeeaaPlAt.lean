/-
  At of the reference: places behind a text.
-/
import Derived.Test.YtldapomcjfkeeaaPlRunW
namespace Go.Proofs.Ytldapomcjfkeeaa
set_option linter.unusedVariables false
open Go.ChangeShapes Go.WideShapes Go.ChangeAt Go.RowKit

theorem contains_not {l : List Int} {x : Int} (h : ∀ j, j < l.length → l.getD j 0 ≠ x) : l.contains x = false := by
  cases hc : l.contains x
  · rfl
  · obtain ⟨j, hj, he⟩ := List.getElem_of_mem (List.contains_iff_mem.1 hc)
    exact absurd (by simp [List.getD, List.getElem?_eq_getElem hj, he]) (h j hj)
theorem contains_at {l : List Int} {x : Int} {k : Nat} (hk : k < l.length) (h : l.getD k 0 = x) : l.contains x = true := by
  rw [List.contains_iff_mem, ← h, show l.getD k 0 = l[k] by simp [List.getD, List.getElem?_eq_getElem hk]]
  exact List.getElem_mem hk

def Pl.IdxRet (C : Bool) (w : World) (e : Ending) (w' : World) : Prop := (∃ r : Int, e = .returned (.int .i64 r) ∧ decide (0 ≤ r) = C) ∧ w' = w

set_option maxRecDepth 100000 in
set_option maxHeartbeats 2000000 in
theorem index_any (x : Int) (l : List Int) (v : Value) (w : World) (F : Nat → Prop) (h : ((Enc.int .i64).sl 8).R F w [v] l) :
    Calls Try.prog 140 #[v, .int .i64 x] w (Pl.IdxRet (l.contains x) w) := by
  obtain ⟨ao, b, off, cap, rfl, hl, n3, n4⟩ := slInt h
  have N3 := Lib.hid n3; have N4 := Lib.hid n4
  have hll : (l.length : Int) ≤ 140737488355328 := by omega
  clear h n3 n4 hl
  obtain ⟨C, hC⟩ : ∃ C, l.contains x = C := ⟨_, rfl⟩
  rw [hC]
  have HCC := Lib.hid hC
  clear hC
  go_enter Try.func140, Try.ntmps140
  go_wp2
  go_loopw [5, 8] (fun _ i wr => ∃ k : Nat, k ≤ l.length ∧ i = .int .i64 k ∧ wr = w ∧ Hid (∀ j, j < k → l.getD j 0 ≠ x)) (fun _ i _ => l.length - (intOf i).toNat)
  case atStart => exact ⟨0, by omega, rfl, rfl, Lib.hid (fun j hj => absurd hj (by omega))⟩
  case round =>
    obtain ⟨k, hk, rfl, rfl, hq⟩ := hrel
    by_cases hlt : k < l.length
    · obtain ⟨rfl, _, _⟩ := N3.out (by omega)
      have hc1 := (N4.out k hlt).1
      have hlt2 : (k : Int) < l.length := by omega
      obtain ⟨y, hy⟩ : ∃ y, l.getD k 0 = y := ⟨_, rfl⟩
      rw [hy] at hc1
      have HY := Lib.hid hy
      clear hy
      by_cases hxy : x = y
      · subst hxy
        have HC := Lib.hid (contains_at hlt HY.out)
        go_wp2
        go_ret
        exact ⟨⟨k, rfl, by rw [← HCC.out, HC.out]; simp⟩, rfl⟩
      · have hb : (x == y) = false := by rw [beq_eq_false_iff_ne]; exact hxy
        have HXY := Lib.hid hxy
        clear hxy
        go_wp2
        go_roundw
        case rel => exact ⟨k + 1, by omega, by go_num, trivial, Lib.hid (fun j hj => by
          rcases Nat.lt_succ_iff_lt_or_eq.1 hj with h | rfl
          · exact hq.out j h
          · rw [HY.out]; exact fun e => HXY.out e.symm)⟩
        case measure => simp [intOf]; omega
    · obtain rfl : k = l.length := by omega
      have HC := Lib.hid (contains_not hq.out)
      clear hq
      go_wp2
      go_ret
      exact ⟨⟨-1, rfl, by rw [← HCC.out, HC.out]; rfl⟩, rfl⟩

set_option maxRecDepth 100000 in
theorem containsI_any (x : Int) (l : List Int) (v : Value) (w : World) (F : Nat → Prop) (h : ((Enc.int .i64).sl 8).R F w [v] l) :
    Calls Try.prog 86 #[v, .int .i64 x] w fun e w' => e = .returned (.bool (l.contains x)) ∧ w' = w := by
  have hi := index_any x l v w F h
  obtain ⟨C, hC⟩ : ∃ C, l.contains x = C := ⟨_, rfl⟩
  rw [hC] at hi ⊢
  have HI := Lib.hid hi
  clear hC hi
  go_enter Try.func86, Try.ntmps86
  go_wp2_with (fail)
  go_at_call 140
  refine HI.out.mono ?_
  rintro e w2 ⟨⟨r, rfl, hr⟩, rfl⟩
  have HR := Lib.hid hr
  clear hr
  go_wp2
  go_ret
  exact ⟨by rw [← HR.out]; rfl, rfl⟩
end Go.Proofs.Ytldapomcjfkeeaa
