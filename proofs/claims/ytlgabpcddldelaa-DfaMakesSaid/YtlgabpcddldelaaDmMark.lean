/-
  mark, the other closure of the reference's Dfa; the rest of what it does, plainly.
-/
import Derived.Test.YtlgabpcddldelaaDmLeast
import Derived.RegionTactic
namespace Go.Proofs.Ytlgabpcddldelaa
set_option linter.unusedVariables false
set_option linter.unusedSimpArgs false
open Go.ChangeShapes Go.WideShapes Go.ChangeAt Go.RowKit

namespace Dm
def mk (I : List Bool) (l : List Int) : List Bool := l.foldl (fun I x => I.set x.toNat true) I
theorem mk_nil (I : List Bool) : mk I [] = I := rfl
theorem mk_len (l : List Int) : ∀ I : List Bool, (mk I l).length = I.length := by
  induction l with
  | nil => intro I; rfl
  | cons x r ih => intro I; show (mk (I.set x.toNat true) r).length = _; rw [ih, List.length_set]
theorem mk_step (I : List Bool) (l : List Int) {k : Nat} (h : k < l.length) : mk I (l.take (k + 1)) = (mk I (l.take k)).set (l.getD k 0).toNat true := by
  unfold mk
  rw [List.take_succ_eq_append_getElem h, List.foldl_append]
  simp [List.getD, List.getElem?_eq_getElem h]
theorem mk_app (I : List Bool) (l m : List Int) : mk I (l ++ m) = mk (mk I l) m := by unfold mk; rw [List.foldl_append]
theorem mk_get {l : List Int} : ∀ {I : List Bool} (y : Nat), (∀ x ∈ l, 0 ≤ x ∧ x < I.length) → (mk I l).getD y false = (I.getD y false || l.contains (y : Int)) := by
  induction l with
  | nil => intro I y _; simp [mk]
  | cons x r ih =>
    intro I y h
    have hx := h x (.head _)
    obtain ⟨x, rfl⟩ := Int.eq_ofNat_of_zero_le hx.1
    show (mk (I.set (x : Int).toNat true) r).getD y false = _
    rw [Int.toNat_natCast, ih y (fun z hz => by rw [List.length_set]; exact h z (.tail _ hz)), List.contains_cons]
    by_cases h2 : x = y
    · subst h2
      have hx2 : x < I.length := by omega
      simp [List.getD, hx2]
    · have h3 : ((y : Int) == (x : Int)) = false := by rw [beq_eq_false_iff_ne]; omega
      rw [h3, Bool.false_or]
      simp [List.getD, List.getElem?_set_ne h2]
end Dm
attribute [irreducible] Dm.mk

set_option maxRecDepth 100000 in
set_option maxHeartbeats 1600000 in
theorem rMark_any (I : List Bool) (l : List Int) (n : Nat) (hI : I.length = n) (hn : n ≤ 200) (hl : ∀ x ∈ l, 0 ≤ x ∧ x < n) (v : Value) (gA cap g8 : Nat) (w0 w : World) (F : Nat → Prop) (hv : ((Enc.int .i64).sl 8).R F w0 [v] l) (μ : List Asrt)
    (h : St w0 w (aCel g8 25 #[.slice (some ⟨gA, 0, none⟩) n cap] :: aOwn 4 1 (.slice (some ⟨gA, 0, none⟩) n cap) (I.map Value.bool) :: μ)) :
    Calls Try.prog 44 #[v, .pointer (some ⟨g8, 0, none⟩)] w fun e w' => e = .returned (.tuple #[]) ∧ St w0 w' (aCel g8 25 #[.slice (some ⟨gA, 0, none⟩) n cap] :: aOwn 4 1 (.slice (some ⟨gA, 0, none⟩) n cap) ((Dm.mk I l).map Value.bool) :: μ) := by
  obtain ⟨al, bl, ol, cl, rfl, k1, l3, l4⟩ := slInt hv
  have L3 := Lib.hid l3; have L4 := Lib.hid l4
  have HL := Lib.hid hl
  have HI := Lib.hid hI
  have HST := Lib.hid h
  have hll : (l.length : Int) ≤ 140737488355328 := by omega
  clear hv l3 l4 hl hI h k1
  go_enter Try.func44, Try.ntmps44
  go_wp2_with (fail)
  go_loopg [3] l.length (fun gz v3 wr => ∃ k : Nat, k ≤ l.length ∧ gz = l.length - k ∧ v3 = .int .i64 k ∧ St w0 wr (aCel g8 25 #[.slice (some ⟨gA, 0, none⟩) n cap] :: aOwn 4 1 (.slice (some ⟨gA, 0, none⟩) n cap) ((Dm.mk I (l.take k)).map Value.bool) :: μ))
  case atStart => exact ⟨0, by omega, by omega, rfl, by rw [List.take_zero, Dm.mk_nil]; exact HST.out⟩
  case round =>
    clear HST
    obtain ⟨k, hk, hgz, rfl, hst⟩ := hrel
    have HGZ := Lib.hid hgz
    clear hgz
    by_cases hlt : k < l.length
    · have hltI : (k : Int) < l.length := by omega
      obtain ⟨rfl, -, -⟩ := L3.out (by omega)
      have c0 := bkeep hst.bel (L4.out k hlt).1
      have hx := HL.out (l.getD k 0) (by rw [show l.getD k 0 = l[k] by simp [List.getD, List.getElem?_eq_getElem hlt]]; exact List.getElem_mem hlt)
      have HS := Lib.hid (Dm.mk_step I l hlt)
      have hml := Dm.mk_len (l.take k) I
      rw [HI.out] at hml
      obtain ⟨x, hxe⟩ := Int.eq_ofNat_of_zero_le hx.1
      rw [hxe] at c0 hx HS
      rw [Int.toNat_natCast] at HS
      clear hxe
      have hxI : (x : Int) < n := hx.2
      generalize Dm.mk I (l.take k) = J at *
      have g0 := hst.celAt (i := 0) (v := .slice (some ⟨gA, 0, none⟩) n cap) rfl
      have j0 := (hst.get2.cellOwn (f := Value.bool) (fun _ => rfl) x (by omega) false).1
      have jf := (hst.get2.cellOwn (f := Value.bool) (fun _ => rfl) x (by omega) false).2
      have HST2 := Lib.hid (hst.drew.get2.setOwn (f := Value.bool) (fun _ => rfl) x true).get2
      have HML := Lib.hid hml
      clear hst hx hml
      go_wp2
      go_region
      all_goals
        go_wp2
        go_roundg (l.length - (k + 1))
        case measure => have := HGZ.out; omega
        case rel => exact ⟨k + 1, by omega, rfl, by go_num, by rw [HS.out]; exact HST2.out⟩
    · have hke : k = l.length := by omega
      rw [hke, List.take_length] at hst
      have hge : ¬ ((k : Int) < l.length) := by omega
      have HST := Lib.hid hst
      clear hst hke
      go_wp2
      go_end0
      exact ⟨rfl, HST.out⟩
end Go.Proofs.Ytlgabpcddldelaa
