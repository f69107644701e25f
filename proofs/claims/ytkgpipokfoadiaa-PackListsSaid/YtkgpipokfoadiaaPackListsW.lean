/-
  The walk of the law PackLists.
-/
import Derived.Test.YtkgpipokfoadiaaPackList
import Derived.Test.YtkgpipokfoadiaaPackRList
import Derived.Test.YtkgpipokfoadiaaEqStr
namespace Go.Proofs.Ytkgpipokfoadiaa
set_option linter.unusedVariables false
open Go.ChangeShapes Go.WideShapes Go.ChangeAt Go.RowKit

namespace Lst
theorem readText_small (s a : ByteArray) (b c : Int) (h : Pack.readText s = (a, b, c)) : a.size ≤ 4096 := by
  unfold Pack.readText at h
  obtain ⟨x, y, z, hr⟩ : ∃ x y z, Pack.readNum s = (x, y, z) := ⟨_, _, _, rfl⟩
  have hb := Pack.readNum_bounds s x y z hr
  rw [hr] at h
  simp only at h
  split at h
  · simp only [Prod.mk.injEq] at h; obtain ⟨rfl, rfl, rfl⟩ := h; simp
  split at h
  · simp only [Prod.mk.injEq] at h; obtain ⟨rfl, rfl, rfl⟩ := h; simp
  split at h
  · simp only [Prod.mk.injEq] at h; obtain ⟨rfl, rfl, rfl⟩ := h; simp
  · simp only [Prod.mk.injEq] at h
    obtain ⟨rfl, rfl, rfl⟩ := h
    rw [ByteArray.size_extract]
    omega
theorem go_small (n : Nat) : ∀ (s : ByteArray) (out : List ByteArray), (∀ x ∈ out, x.size ≤ 4096) → out.length + n ≤ 100 → (∀ x ∈ (go n s out).1, x.size ≤ 4096) ∧ (go n s out).1.length ≤ 100 := by
  induction n with
  | zero =>
    intro s out h hl
    by_cases hz : s.size = 0
    · rw [go_end _ _ hz]; exact ⟨h, by simpa using hl⟩
    · rw [go_left _ _ hz]; simp
  | succ n ih =>
    intro s out h hl
    obtain ⟨a, b, c, hr⟩ : ∃ a b c, Pack.readText s = (a, b, c) := ⟨_, _, _, rfl⟩
    by_cases hc : c = 0
    · subst hc
      rw [go_next _ _ _ _ _ hr]
      refine ih _ _ (fun x hx => ?_) (by simp; omega)
      rcases List.mem_append.1 hx with hx | hx
      · exact h x hx
      · rw [List.mem_singleton.1 hx]; exact readText_small _ _ _ _ hr
    · rw [go_err _ _ _ _ _ _ hr hc]; simp
theorem readList_small (s : ByteArray) : (∀ x ∈ (readList s).1, x.size ≤ 4096) ∧ (readList s).1.length ≤ 100 := by
  obtain ⟨a, b, c, hr⟩ : ∃ a b c, Pack.readNum s = (a, b, c) := ⟨_, _, _, rfl⟩
  obtain ⟨ha0, _⟩ := Pack.readNum_bounds s a b c hr
  by_cases hc : c = 0
  · subst hc
    by_cases hla : 100 < a
    · rw [readList_large _ _ _ hr hla]; simp
    · rw [readList_go _ _ _ hr hla]
      exact go_small _ _ _ (by simp) (by simp; omega)
  · rw [readList_err _ _ _ _ hr hc]; simp
end Lst

theorem strs_enc {w : World} {B : Nat} {e : TypeId} {v : Value} {l : List ByteArray} (h : Own w B e 1 v (l.map Value.string)) (h1 : ∀ x ∈ l, x.size ≤ 4096) (h2 : l.length ≤ 100) : (Enc.str.sl 16).R (fun _ => True) w [v] l :=
  Own.enc (En := Enc.str) h rfl (fun a ha => ⟨rfl, by have := h1 a ha; omega⟩) (fun _ _ => trivial) (by omega)

set_option maxRecDepth 100000 in
set_option maxHeartbeats 8000000 in
theorem packLists_walk (l : List ByteArray) (v : Value) (s : ByteArray) (hs : s.size ≤ maxLen) (w : World) (h : (Enc.str.sl 16).R (fun b => b < w.heap.size) w [v] l) :
    Calls Try.prog 8 #[v, .string s] w fun e w' => e = .returned (.bool true) ∧ Below w.heap.size w w' := by
  have H := Lib.hid h; clear h
  have HS := Lib.hid (Lst.readList_small s)
  go_enter Try.func8, Try.ntmps8
  go_wp2_with (first
    | (go_at_call 41; refine (list_any l v _ _ (fun _ h => h) H.out).mono ?_; rintro e w1 ⟨rfl, hb1⟩; have hst := (St.init w).call hb1; clear hb1)
    | (go_at_call 42; refine (rlist_any l v _ _ (fun b hb => Nat.lt_of_lt_of_le hb hst.bel.size) (Enc.mono _ H.out (fun _ h => h) (fun b hb => hst.bel.block b hb))).mono ?_; rintro e w2 ⟨rfl, hb1⟩; replace hst := hst.call (hb1.mono (Nat.le_refl _)); clear hb1)
    | (go_at_call 43; refine (readList_any s hs _).mono ?_; rintro e w3 ⟨v3, rfl, ho, hb1⟩; replace hst := hst.pushOwn hb1 ho; clear hb1 ho)
    | (go_at_call 44; refine (rreadList_any s hs _).mono ?_; rintro e w4 ⟨v4, rfl, ho, hb1⟩; replace hst := hst.pushOwn hb1 ho; clear hb1 ho)
    | (go_at_call 45; refine (eqStrs _ (strs_enc hst.get2.own HS.out.1 HS.out.2) (strs_enc hst.own HS.out.1 HS.out.2)).mono ?_; rintro e w5 ⟨rfl, hb1⟩; replace hst := hst.call hb1; clear hb1))
  go_ret
  exact ⟨by simp, hst.bel⟩
end Go.Proofs.Ytkgpipokfoadiaa
